/- Plain functions of the program and that the program computes them: printed by the own tool gen.py. No conditions. -/
import Derived.Test.YtjcgphgipleccaaSrV
import Derived.Test.YtjcgphgipleccaaCloV
import Derived.Test.YtjcgphgipleccaaTra
import Derived.Test.YtjcgphgipleccaaSrc
import Derived.Test.YtjcgphgipleccaaAb24
import Derived.Test.YtjcgphgipleccaaAb23
import Derived.Test.YtjcgphgipleccaaAb18
import Derived.Test.YtjcgphgipleccaaAb27
import Derived.Test.YtjcgphgipleccaaGenC
set_option linter.unusedVariables false
set_option linter.unusedSimpArgs false
namespace Go.Proofs.Ytjcgphgipleccaa
open Go Go.RowKit Ab

-- loop.example/g01362/laws.big
def laws_big (p0 : List UInt8) : Bool :=
 decide (4096 < (p0.length : Int))
set_option maxRecDepth 100000 in
theorem laws_big_ac (p0 : List UInt8) : AC Try.prog 14 [.d (.sl none (bysD p0))] [] (fun res H' => res = [bV (laws_big p0)] ∧ H' = []) := by
 refine AC_of_body true Try.func14 rfl Try.ntmps14 (rvs := [.tmp 2]) rfl rfl (fun G hG => ?_)
 have hm : G.H.length = 0 := by rw [hG]; rfl
 have hz : zeroG G.H = true := by rw [hG]; rfl
 obtain ⟨r, h⟩ : ∃ r, laws_big p0 = r := ⟨_, rfl⟩
 rw [h]
 unfold laws_big at h
 refine kR ?_
 refine kN 1 rfl ?_
 refine kR ?_
 refine kM 1 rfl ?_
 refine AOps_q 4 _ rfl rfl rfl (QOp_len_sl _ _ _ _ _ _ _ (bysD_length _) rfl rfl rfl rfl Try.underlying37 rfl) ?_
 refine AOps_q 5 _ rfl rfl rfl (QOp_gtr _ _ _ _ _ _ _ rfl rfl rfl) ?_
 refine kN 1 rfl ?_
 refine ACode_ret ?_
 cases h
 exact ⟨_, _, fun r a w h => ⟨r, h⟩, _, _, [], _, (.cons (ResV_tmp _ _ rfl) .nil), rfl, rfl, rfl, rfl, rfl⟩

-- loop.example/g01362/laws.roll
def laws_roll_l0 (p0 : List UInt8) : Nat → Int → Src → Option (Src)
 | 0, _, _ => none
 | k0 + 1, x1, x2 => (if decide (x1 < (p0.length : Int)) then (if 0 ≤ x1 ∧ x1 < (p0.length : Int) then laws_roll_l0 p0 k0 (w64 (x1 + 1)) (⟨x2.c, x2.i, IntKind.u64.wrap ((IntKind.u64.wrap ((IntKind.u64.wrap (x2.h * 1099511628211)) + ((p0.getD x1.toNat 0).toNat : Int))) + 5)⟩ : Src) else none) else some x2)
def laws_roll (k : Nat) (p0 : List UInt8) (p1 : Int) : Option (Src) :=
 (laws_roll_l0 p0 k 0 (⟨p0, 0, IntKind.u64.wrap ((IntKind.u64.wrap (p1 * 6257)) + (IntKind.u64.wrap (p0.length : Int)))⟩ : Src) : Option (Src)).bind fun s5 => some s5
set_option maxRecDepth 100000 in
theorem laws_roll_ac (k : Nat) (p0 : List UInt8) (p1 : Int) (r : Src) (h : laws_roll k p0 p1 = some r) : AC Try.prog 15 [.d (.sl none (bysD p0)), .d (.s (.int .u64 p1))] [] (fun res H' => res = [.ptr 0 0] ∧ H' = [.box (srcD r)]) := by
 refine AC_of_body true Try.func15 rfl Try.ntmps15 (rvs := [.tmp 4]) rfl rfl (fun G hG => ?_)
 have hm : G.H.length = 0 := by rw [hG]; rfl
 have hz : zeroG G.H = true := by rw [hG]; rfl
 unfold laws_roll at h
 refine kR ?_
 refine kN 1 rfl ?_
 refine kR ?_
 refine kM 2 rfl ?_
 refine AOps_q 9 _ rfl rfl rfl (QOp_mul _ _ _ _ _ _ _ rfl rfl rfl) ?_
 refine kM 1 rfl ?_
 refine AOps_q 11 _ rfl rfl rfl (QOp_len_sl _ _ _ _ _ _ _ (bysD_length _) rfl rfl rfl rfl Try.underlying37 rfl) ?_
 refine AOps_q 12 _ rfl rfl rfl (QOp_conv _ _ _ _ _ _ rfl rfl Try.underlying41 rfl) ?_
 refine AOps_q 13 _ rfl rfl rfl (QOp_add _ _ _ _ _ _ _ rfl rfl rfl) ?_
 refine AOps_q 14 _ rfl rfl rfl (QOp_build _ _ [_, _] [0, 2] [.sl none (bysD p0), .s (.int .u64 (IntKind.u64.wrap ((IntKind.u64.wrap (p1 * 6257)) + (IntKind.u64.wrap (p0.length : Int)))))] _ [.sl (some true) [], iD 0, .s (.int .u64 0)] (srcD (⟨p0, 0, IntKind.u64.wrap ((IntKind.u64.wrap (p1 * 6257)) + (IntKind.u64.wrap (p0.length : Int)))⟩ : Src)) [(0, 1), (1, 1), (2, 1)] rfl rfl Try.underlying61 (zero_of Try.typeInfo61 rfl) (fun w => by simp [Try.sizeOf37, Try.sizeOf3, Try.sizeOf41]) rfl (by rfl) (by rfl) (allc (ok1 rfl) (allc (ok1 rfl) (fun _ h => nomatch h)))) ?_
 refine AOps_boxM 15 _ _ (.agg (srcD (⟨p0, 0, IntKind.u64.wrap ((IntKind.u64.wrap (p1 * 6257)) + (IntKind.u64.wrap (p0.length : Int)))⟩ : Src))) (srcD (⟨p0, 0, IntKind.u64.wrap ((IntKind.u64.wrap (p1 * 6257)) + (IntKind.u64.wrap (p0.length : Int)))⟩ : Src)) rfl (srcD_one _) rfl rfl rfl rfl rfl ?_
 refine kN 1 rfl ?_
 refine kB (fun s5 => [(5, .ptr 0 0)]) (fun s5 => [.box (srcD s5)]) h (fun s5 h => ?_) (fun s5 h => ?_)
 ·refine kR ?_
  refine kN 1 rfl ?_
  refine ACode_block ?_
  refine ACode_loopW (fun k0 E H => ∃ (x1 : Int) (x2 : Src), E = [(0, .d (.sl none (bysD p0))), (5, .ptr 0 0), (6, iV x1)] ∧ H = [.box (srcD x2)] ∧ laws_roll_l0 p0 k0 x1 x2 = some s5) k _ _ (Weak_keep 0 hm [0, 5, 6] [0] _ _ rfl rfl rfl) ⟨_, _, rfl, rfl, h⟩ ?_
  clear h
  rintro k0 E H ⟨x1, x2, rfl, rfl, h⟩
  cases k0 with
  | zero => cases (show (none : Option (Src)) = some _ from h)
  | succ k0 =>
   rw [laws_roll_l0] at h
   refine ACode_seq ?_
   refine kR ?_
   refine kM 2 rfl ?_
   refine AOps_q 18 _ rfl rfl rfl (QOp_len_sl _ _ _ _ _ _ _ (bysD_length _) rfl rfl rfl rfl Try.underlying37 rfl) ?_
   refine AOps_q 19 _ rfl rfl rfl (QOp_lss _ _ _ _ _ _ _ rfl rfl rfl) ?_
   refine AOps_nil ?_
   refine kI h rfl (fun h _ => ?_) (fun h _ => ?_)
   ·refine ACode_skip ?_
    refine ACode_seq ?_
    refine ACode_block ?_
    refine (ACode_last (l := [_, _, _, _, _, _, _, _, _, _, _, _, _, _, _]) mixed (by kernel_rfl) (by kernel_rfl) ?_)
    refine kQ 2 rfl ?_
    refine AQ_q 24 _ rfl rfl rfl (QOp_nilCheck_ptr _ _ _ _ rfl rfl rfl rfl) ?_
    refine AQ_q 25 _ rfl rfl rfl (QOp_fieldAddr_ptr _ _ _ _ _ _ 2 _ _ rfl Try.underlying61 rfl _ Try.sizeOf41 rfl rfl rfl rfl) ?_
    refine AQ_q 26 _ rfl rfl rfl (QOp_load_ptr _ _ _ _ _ _ rfl Try.isAgg41 rfl rfl rfl) ?_
    refine AQ_q 27 _ rfl rfl rfl (QOp_mul _ _ _ _ _ _ _ rfl rfl rfl) ?_
    refine kQ 2 rfl ?_
    obtain ⟨hc4, h⟩ := guardO h
    refine AQ_q 30 _ rfl rfl rfl (QOp_indexAddr_sl _ _ _ _ _ _ _ _ rfl Try.underlying37 Try.sizeOf5 hc4.1 (by rw [bysD_length]; exact hc4.2) rfl rfl) ?_
    refine AQ_q 31 _ rfl rfl rfl (QOp_load_pv _ _ _ _ _ rfl Try.isAgg5 rfl (bysD_get _ _ 0 (by omega))) ?_
    refine AQ_q 32 _ rfl rfl rfl (QOp_fromByte _ _ _ _ _ rfl rfl Try.underlying41 wrap_u64_byte rfl) ?_
    refine AQ_q 33 _ rfl rfl rfl (QOp_add _ _ _ _ _ _ _ rfl rfl rfl) ?_
    refine AQ_q 34 _ rfl rfl rfl (QOp_add _ _ _ _ _ _ _ rfl rfl rfl) ?_
    refine AQ_q 35 _ rfl rfl rfl (QOp_nilCheck_ptr _ _ _ _ rfl rfl rfl rfl) ?_
    refine AQ_q 36 _ rfl rfl rfl (QOp_fieldAddr_ptr _ _ _ _ _ _ 2 _ _ rfl Try.underlying61 rfl _ Try.sizeOf41 rfl rfl rfl rfl) ?_
    refine AQ_nil ?_
    refine AOps_store1 _ _ _ _ _ _ (srcD (⟨x2.c, x2.i, IntKind.u64.wrap ((IntKind.u64.wrap ((IntKind.u64.wrap (x2.h * 1099511628211)) + ((p0.getD x1.toNat 0).toNat : Int))) + 5)⟩ : Src)) _ rfl rfl rfl rfl rfl rfl rfl Try.sizeOf41 (by rw [srcD_length]; decide) (srcD_set2 _ _) ?_
    refine AOps_nil ?_
    refine (ACode_region ?_)
    refine kM 1 rfl ?_
    refine AOps_q 21 _ rfl rfl rfl (QOp_add _ _ _ _ _ _ _ rfl rfl rfl) ?_
    refine kN 1 rfl ?_
    exact ⟨k0, _, _, Nat.lt_succ_self _, Weak_keep 0 hm [0, 5, 6] [0] _ _ rfl rfl rfl, _, _, rfl, rfl, h⟩
   refine ACode_exit ?_
   cases h
   exact Weak_keep 0 hm [5] [0] _ _ rfl rfl rfl
 refine kR ?_
 refine kN 2 rfl ?_
 refine ACode_ret ?_
 cases h
 exact ⟨_, _, Weak_reset 0 hm hz [4] _ _ rfl rfl, _, _, [0], _, (.cons (ResV_tmp _ _ rfl) .nil), rfl, rfl, rfl, rfl, rfl⟩

-- (*loop.example/g01362/laws.dice).below
def laws_dice_below (p0 : Src) (p1 : Int) : Option (Int × Src) :=
 (if decide (p1 < 1) then some (0, p0) else ((if decide ((⟨p0.c, p0.i, IntKind.u64.wrap ((IntKind.u64.wrap (p0.h * 6364136223846793005)) + 1442695040888963407)⟩ : Src).i < (((⟨p0.c, p0.i, IntKind.u64.wrap ((IntKind.u64.wrap (p0.h * 6364136223846793005)) + 1442695040888963407)⟩ : Src).c).length : Int)) then (if 0 ≤ (⟨p0.c, p0.i, IntKind.u64.wrap ((IntKind.u64.wrap (p0.h * 6364136223846793005)) + 1442695040888963407)⟩ : Src).i ∧ (⟨p0.c, p0.i, IntKind.u64.wrap ((IntKind.u64.wrap (p0.h * 6364136223846793005)) + 1442695040888963407)⟩ : Src).i < (((⟨p0.c, p0.i, IntKind.u64.wrap ((IntKind.u64.wrap (p0.h * 6364136223846793005)) + 1442695040888963407)⟩ : Src).c).length : Int) then some (w64 ((w64 (bAnd .u64 (bShr .u64 ((⟨p0.c, p0.i, IntKind.u64.wrap ((IntKind.u64.wrap (p0.h * 6364136223846793005)) + 1442695040888963407)⟩ : Src).h) 33) 16777215)) + ((((⟨p0.c, p0.i, IntKind.u64.wrap ((IntKind.u64.wrap (p0.h * 6364136223846793005)) + 1442695040888963407)⟩ : Src).c).getD ((⟨p0.c, p0.i, IntKind.u64.wrap ((IntKind.u64.wrap (p0.h * 6364136223846793005)) + 1442695040888963407)⟩ : Src).i).toNat 0).toNat : Int)), (⟨(⟨p0.c, p0.i, IntKind.u64.wrap ((IntKind.u64.wrap (p0.h * 6364136223846793005)) + 1442695040888963407)⟩ : Src).c, w64 (((⟨p0.c, p0.i, IntKind.u64.wrap ((IntKind.u64.wrap (p0.h * 6364136223846793005)) + 1442695040888963407)⟩ : Src).i) + 1), (⟨p0.c, p0.i, IntKind.u64.wrap ((IntKind.u64.wrap (p0.h * 6364136223846793005)) + 1442695040888963407)⟩ : Src).h⟩ : Src)) else none) else some (w64 (bAnd .u64 (bShr .u64 ((⟨p0.c, p0.i, IntKind.u64.wrap ((IntKind.u64.wrap (p0.h * 6364136223846793005)) + 1442695040888963407)⟩ : Src).h) 33) 16777215), (⟨p0.c, p0.i, IntKind.u64.wrap ((IntKind.u64.wrap (p0.h * 6364136223846793005)) + 1442695040888963407)⟩ : Src))) : Option (Int × Src)).bind fun s4 => (if p1 ≠ 0 then some (s4.1.tmod p1, s4.2) else none))
set_option maxRecDepth 100000 in
theorem laws_dice_below_ac (p0 : Src) (p1 : Int) (r : Int × Src) (h : laws_dice_below p0 p1 = some r) : AC Try.prog 16 [.ptr 0 0, iV p1] [.box (srcD p0)] (fun res H' => res = [iV r.1] ∧ H' = [.box (srcD r.2)]) := by
 refine AC_of_body true Try.func16 rfl Try.ntmps16 (rvs := [.tmp 4]) rfl rfl (fun G hG => ?_)
 have hm : G.H.length = 1 := by rw [hG]; rfl
 have hz : zeroG G.H = true := by rw [hG]; rfl
 unfold laws_dice_below at h
 refine kR ?_
 refine kN 1 rfl ?_
 refine ACode_seq ?_
 refine kR ?_
 refine kM 1 rfl ?_
 refine AOps_q 7 _ rfl rfl rfl (QOp_lss _ _ _ _ _ _ _ rfl rfl rfl) ?_
 refine AOps_nil ?_
 refine kI h rfl (fun h _ => ?_) (fun h _ => ?_)
 ·refine kR ?_
  refine kN 1 rfl ?_
  refine ACode_ret ?_
  cases h
  exact ⟨_, _, fun r a w h => ⟨r, h⟩, _, _, [], _, (.cons (ResV_tmp _ _ rfl) .nil), rfl, rfl, rfl, rfl, rfl⟩
 refine ACode_skip ?_
 refine kR ?_
 refine kM 2 rfl ?_
 refine AOps_q 10 _ rfl rfl rfl (QOp_nilCheck_ptr _ _ _ _ rfl rfl rfl rfl) ?_
 refine AOps_q 11 _ rfl rfl rfl (QOp_fieldAddr_ptr _ _ _ _ _ _ 2 _ _ rfl Try.underlying61 rfl _ Try.sizeOf41 rfl rfl rfl rfl) ?_
 refine AOps_q 12 _ rfl rfl rfl (QOp_load_ptr _ _ _ _ _ _ rfl Try.isAgg41 rfl rfl rfl) ?_
 refine AOps_q 13 _ rfl rfl rfl (QOp_mul _ _ _ _ _ _ _ rfl rfl rfl) ?_
 refine AOps_q 14 _ rfl rfl rfl (QOp_add _ _ _ _ _ _ _ rfl rfl rfl) ?_
 refine AOps_q 15 _ rfl rfl rfl (QOp_nilCheck_ptr _ _ _ _ rfl rfl rfl rfl) ?_
 refine AOps_q 16 _ rfl rfl rfl (QOp_fieldAddr_ptr _ _ _ _ _ _ 2 _ _ rfl Try.underlying61 rfl _ Try.sizeOf41 rfl rfl rfl rfl) ?_
 refine AOps_store1 _ _ _ _ _ _ (srcD (⟨p0.c, p0.i, IntKind.u64.wrap ((IntKind.u64.wrap (p0.h * 6364136223846793005)) + 1442695040888963407)⟩ : Src)) _ rfl rfl rfl rfl rfl rfl rfl Try.sizeOf41 (by rw [srcD_length]; decide) (srcD_set2 _ _) ?_
 refine AOps_nil ?_
 refine kR ?_
 refine kM 1 rfl ?_
 refine AOps_q 18 _ rfl rfl rfl (QOp_nilCheck_ptr _ _ _ _ rfl rfl rfl rfl) ?_
 refine AOps_q 19 _ rfl rfl rfl (QOp_fieldAddr_ptr _ _ _ _ _ _ 2 _ _ rfl Try.underlying61 rfl _ Try.sizeOf41 rfl rfl rfl rfl) ?_
 refine AOps_q 20 _ rfl rfl rfl (QOp_load_ptr _ _ _ _ _ _ rfl Try.isAgg41 rfl rfl rfl) ?_
 refine AOps_q 21 _ rfl rfl rfl (QOp_shr _ _ _ _ _ _ _ _ (by decide) rfl rfl rfl) ?_
 refine AOps_q 22 _ rfl rfl rfl (QOp_and _ _ _ _ _ _ _ rfl rfl rfl) ?_
 refine AOps_q 23 _ rfl rfl rfl (QOp_conv _ _ _ _ _ _ rfl rfl Try.underlying2 rfl) ?_
 refine kN 1 rfl ?_
 refine kB (fun s4 => [(1, iV p1), (5, iV s4.1)]) (fun s4 => [.box (srcD s4.2)]) h (fun s4 h => ?_) (fun s4 h => ?_)
 ·refine ACode_seq (ACode_quiet mixed (by kernel_rfl) ?_)
  refine kQ 1 rfl ?_
  refine AQ_q 25 _ rfl rfl rfl (QOp_nilCheck_ptr _ _ _ _ rfl rfl rfl rfl) ?_
  refine AQ_q 26 _ rfl rfl rfl (QOp_fieldAddr_ptr _ _ _ _ _ _ 1 _ _ rfl Try.underlying61 rfl _ Try.sizeOf3 rfl rfl rfl rfl) ?_
  refine AQ_q 27 _ rfl rfl rfl (QOp_load_ptr _ _ _ _ _ _ rfl Try.isAgg3 rfl rfl rfl) ?_
  refine kQ 1 rfl ?_
  refine AQ_q 29 _ rfl rfl rfl (QOp_nilCheck_ptr _ _ _ _ rfl rfl rfl rfl) ?_
  refine AQ_q 30 _ rfl rfl rfl (QOp_fieldAddr_ptr _ _ _ _ _ _ 0 _ _ rfl Try.underlying61 rfl _ Try.sizeOf37 rfl rfl rfl rfl) ?_
  refine AQ_q 31 _ rfl rfl rfl (QOp_load_ptr _ _ _ _ _ _ rfl Try.isAgg37 rfl rfl rfl) ?_
  refine AQ_q 32 _ rfl rfl rfl (QOp_len_sl _ _ _ _ _ _ _ (bysD_length _) rfl rfl rfl rfl Try.underlying37 rfl) ?_
  refine AQ_q 33 _ rfl rfl rfl (QOp_lss _ _ _ _ _ _ _ rfl rfl rfl) ?_
  refine AQ_nil ?_
  refine kI h rfl (fun h _ => ?_) (fun h _ => ?_)
  ·refine ACode_seq (ACode_quiet mixed (by kernel_rfl) ?_)
   refine kQ 2 rfl ?_
   refine AQ_q 36 _ rfl rfl rfl (QOp_nilCheck_ptr _ _ _ _ rfl rfl rfl rfl) ?_
   refine AQ_q 37 _ rfl rfl rfl (QOp_fieldAddr_ptr _ _ _ _ _ _ 0 _ _ rfl Try.underlying61 rfl _ Try.sizeOf37 rfl rfl rfl rfl) ?_
   refine AQ_q 38 _ rfl rfl rfl (QOp_load_ptr _ _ _ _ _ _ rfl Try.isAgg37 rfl rfl rfl) ?_
   refine kQ 1 rfl ?_
   refine AQ_q 40 _ rfl rfl rfl (QOp_nilCheck_ptr _ _ _ _ rfl rfl rfl rfl) ?_
   refine AQ_q 41 _ rfl rfl rfl (QOp_fieldAddr_ptr _ _ _ _ _ _ 1 _ _ rfl Try.underlying61 rfl _ Try.sizeOf3 rfl rfl rfl rfl) ?_
   refine AQ_q 42 _ rfl rfl rfl (QOp_load_ptr _ _ _ _ _ _ rfl Try.isAgg3 rfl rfl rfl) ?_
   obtain ⟨hc3, h⟩ := guardO h
   refine AQ_q 43 _ rfl rfl rfl (QOp_indexAddr_sl _ _ _ _ _ _ _ _ rfl Try.underlying37 Try.sizeOf5 hc3.1 (by rw [bysD_length]; exact hc3.2) rfl rfl) ?_
   refine AQ_q 44 _ rfl rfl rfl (QOp_load_pv _ _ _ _ _ rfl Try.isAgg5 rfl (bysD_get _ _ 0 (by omega))) ?_
   refine AQ_q 45 _ rfl rfl rfl (QOp_fromByte _ _ _ _ _ rfl rfl Try.underlying2 wrap_i64_byte rfl) ?_
   refine AQ_q 46 _ rfl rfl rfl (QOp_add _ _ _ _ _ _ _ rfl rfl rfl) ?_
   refine kQ 1 rfl ?_
   refine AQ_nil ?_
   refine (ACode_region ?_)
   refine kM 2 rfl ?_
   refine AOps_q 49 _ rfl rfl rfl (QOp_nilCheck_ptr _ _ _ _ rfl rfl rfl rfl) ?_
   refine AOps_q 50 _ rfl rfl rfl (QOp_fieldAddr_ptr _ _ _ _ _ _ 1 _ _ rfl Try.underlying61 rfl _ Try.sizeOf3 rfl rfl rfl rfl) ?_
   refine AOps_q 51 _ rfl rfl rfl (QOp_load_ptr _ _ _ _ _ _ rfl Try.isAgg3 rfl rfl rfl) ?_
   refine AOps_q 52 _ rfl rfl rfl (QOp_add _ _ _ _ _ _ _ rfl rfl rfl) ?_
   refine AOps_q 53 _ rfl rfl rfl (QOp_nilCheck_ptr _ _ _ _ rfl rfl rfl rfl) ?_
   refine AOps_q 54 _ rfl rfl rfl (QOp_fieldAddr_ptr _ _ _ _ _ _ 1 _ _ rfl Try.underlying61 rfl _ Try.sizeOf3 rfl rfl rfl rfl) ?_
   refine AOps_store1 _ _ _ _ _ _ (srcD (⟨(⟨p0.c, p0.i, IntKind.u64.wrap ((IntKind.u64.wrap (p0.h * 6364136223846793005)) + 1442695040888963407)⟩ : Src).c, w64 (((⟨p0.c, p0.i, IntKind.u64.wrap ((IntKind.u64.wrap (p0.h * 6364136223846793005)) + 1442695040888963407)⟩ : Src).i) + 1), (⟨p0.c, p0.i, IntKind.u64.wrap ((IntKind.u64.wrap (p0.h * 6364136223846793005)) + 1442695040888963407)⟩ : Src).h⟩ : Src)) _ rfl rfl rfl rfl rfl rfl rfl Try.sizeOf3 (by rw [srcD_length]; decide) (srcD_set1 _ _) ?_
   refine AOps_nil ?_
   cases h
   exact Weak_keep 1 hm [1, 5] [] _ _ rfl rfl rfl
  refine ACode_skip ?_
  cases h
  exact Weak_keep 1 hm [1, 5] [] _ _ rfl rfl rfl
 refine kR ?_
 refine kM 2 rfl ?_
 obtain ⟨hc5, h⟩ := guardO h
 refine AOps_q 57 _ rfl rfl rfl (QOp_rem _ _ _ _ _ _ _ hc5 rfl rfl rfl) ?_
 refine kN 1 rfl ?_
 refine ACode_ret ?_
 cases h
 exact ⟨_, _, fun r a w h => ⟨r, h⟩, _, _, [], _, (.cons (ResV_tmp _ _ rfl) .nil), rfl, rfl, rfl, rfl, rfl⟩

-- loop.example/g01362/impl.in
def impl_in (p0 : Int) (p1 : Int) (p2 : Int) : Bool :=
 letO (if decide (p1 ≤ p0) then decide (p0 ≤ p2) else false) fun (s2 : Bool) => s2
set_option maxRecDepth 100000 in
theorem impl_in_ac (p0 : Int) (p1 : Int) (p2 : Int) : AC Try.prog 54 [iV p0, iV p1, iV p2] [] (fun res H' => res = [bV (impl_in p0 p1 p2)] ∧ H' = []) := by
 refine AC_of_body true Try.func54 rfl Try.ntmps54 (rvs := [.tmp 6]) rfl rfl (fun G hG => ?_)
 have hm : G.H.length = 0 := by rw [hG]; rfl
 have hz : zeroG G.H = true := by rw [hG]; rfl
 obtain ⟨r, h⟩ : ∃ r, impl_in p0 p1 p2 = r := ⟨_, rfl⟩
 rw [h]
 unfold impl_in at h
 refine kR ?_
 refine kN 1 rfl ?_
 refine kL (fun s2 => [(6, bV s2)]) (fun s2 => []) h (fun s2 h => ?_) (fun s2 h => ?_)
 ·refine (ACode_region ?_)
  refine kM 2 rfl ?_
  refine AOps_q 9 _ rfl rfl rfl (QOp_geq _ _ _ _ _ _ _ rfl rfl rfl) ?_
  refine kM 1 rfl ?_
  refine AOps_case 10 _ rfl (fun hb1 => ?_) (fun hb1 => ?_)
  ·have h := iteT hb1 h
   refine kM 2 rfl ?_
   refine AOps_q 13 _ rfl rfl rfl (QOp_leq _ _ _ _ _ _ _ rfl rfl rfl) ?_
   refine kN 2 rfl ?_
   cases h
   exact Weak_keep 0 hm [6] [] _ _ rfl rfl rfl
  have h := iteF hb1 h
  refine AOps_skip 11 rfl rfl rfl ?_
  refine AOps_skip 12 rfl rfl rfl ?_
  refine AOps_skip 13 rfl rfl rfl ?_
  refine kN 2 rfl ?_
  cases h
  exact Weak_keep 0 hm [6] [] _ _ rfl rfl rfl
 refine ACode_ret ?_
 cases h
 exact ⟨_, _, fun r a w h => ⟨r, h⟩, _, _, [], _, (.cons (ResV_tmp _ _ rfl) .nil), rfl, rfl, rfl, rfl, rfl⟩

-- loop.example/g01362/impl.areSizes
def impl_areSizes (p0 : Int) (p1 : Int) : Bool :=
 letO (if (impl_in p0 1 17) then (impl_in p1 1 4) else false) fun (s4 : Bool) => s4
set_option maxRecDepth 100000 in
theorem impl_areSizes_ac (p0 : Int) (p1 : Int) : AC Try.prog 34 [iV p0, iV p1] [] (fun res H' => res = [bV (impl_areSizes p0 p1)] ∧ H' = []) := by
 refine AC_of_body true Try.func34 rfl Try.ntmps34 (rvs := [.tmp 4]) rfl rfl (fun G hG => ?_)
 have hm : G.H.length = 0 := by rw [hG]; rfl
 have hz : zeroG G.H = true := by rw [hG]; rfl
 obtain ⟨r, h⟩ : ∃ r, impl_areSizes p0 p1 = r := ⟨_, rfl⟩
 rw [h]
 unfold impl_areSizes at h
 refine kR ?_
 refine kN 1 rfl ?_
 refine kL (fun s4 => [(4, bV s4)]) (fun s4 => []) h (fun s4 h => ?_) (fun s4 h => ?_)
 ·refine (ACode_region ?_)
  refine kM 1 rfl ?_
  refine kC [] 6 (bV (impl_in p0 1 17)) [] rfl Try.call54 rfl rfl (impl_in_ac p0 1 17) rfl ?_
  refine kM 1 rfl ?_
  refine AOps_case 7 _ rfl (fun hb2 => ?_) (fun hb2 => ?_)
  ·have h := iteT hb2 h
   refine kM 1 rfl ?_
   refine kC [] 9 (bV (impl_in p1 1 4)) [] rfl Try.call54 rfl rfl (impl_in_ac p1 1 4) rfl ?_
   refine kN 2 rfl ?_
   cases h
   exact Weak_keep 0 hm [4] [] _ _ rfl rfl rfl
  have h := iteF hb2 h
  refine AOps_skip 8 rfl rfl rfl ?_
  refine AOps_skip 9 rfl rfl rfl ?_
  refine kN 2 rfl ?_
  cases h
  exact Weak_keep 0 hm [4] [] _ _ rfl rfl rfl
 refine ACode_ret ?_
 cases h
 exact ⟨_, _, fun r a w h => ⟨r, h⟩, _, _, [], _, (.cons (ResV_tmp _ _ rfl) .nil), rfl, rfl, rfl, rfl, rfl⟩

-- loop.example/g01362/impl.size[int64]
def impl_size (p0 : List Int) : Int :=
 (p0.length : Int)
set_option maxRecDepth 100000 in
theorem impl_size_ac (p0 : List Int) : AC Try.prog 55 [.d (.sl none (intsD p0))] [] (fun res H' => res = [iV (impl_size p0)] ∧ H' = []) := by
 refine AC_of_body true Try.func55 rfl Try.ntmps55 (rvs := [.tmp 2]) rfl rfl (fun G hG => ?_)
 have hm : G.H.length = 0 := by rw [hG]; rfl
 have hz : zeroG G.H = true := by rw [hG]; rfl
 obtain ⟨r, h⟩ : ∃ r, impl_size p0 = r := ⟨_, rfl⟩
 rw [h]
 unfold impl_size at h
 refine kR ?_
 refine kN 1 rfl ?_
 refine kR ?_
 refine kM 1 rfl ?_
 refine AOps_q 4 _ rfl rfl rfl (QOp_len_sl _ _ _ _ _ _ _ (intsD_length _) rfl rfl rfl rfl Try.underlying25 rfl) ?_
 refine kN 1 rfl ?_
 refine ACode_ret ?_
 cases h
 exact ⟨_, _, fun r a w h => ⟨r, h⟩, _, _, [], _, (.cons (ResV_tmp _ _ rfl) .nil), rfl, rfl, rfl, rfl, rfl⟩

-- slices.IndexFunc[[]int64,int64]
def slices_IndexFunc_l0 (p0 : List Int) (p1 : Int → Option (Bool)) : Nat → Int → Option (Sum (Unit) (Int))
 | 0, _ => none
 | k0 + 1, x1 => (if decide (x1 < (p0.length : Int)) then (if 0 ≤ x1 ∧ x1 < (p0.length : Int) then (p1 (p0.getD x1.toNat 0)).bind fun r4 => (if r4 then some (.inr x1) else slices_IndexFunc_l0 p0 p1 k0 (w64 (x1 + 1))) else none) else some (.inl ()))
def slices_IndexFunc (k : Nat) (p0 : List Int) (p1 : Int → Option (Bool)) : Option (Int) :=
 (slices_IndexFunc_l0 p0 p1 k 0 : Option (Sum (Unit) (Int))).bind fun os6 => (match os6 with | .inl s6 => some (-1) | .inr rr => some rr)
set_option maxRecDepth 100000 in
theorem slices_IndexFunc_ac (k : Nat) (p0 : List Int) (p1 : Int → Option (Bool)) (g_p1 : FuncId) (c_p1 : List D) (hg_p1 : ∀ args w, (callFunc g_p1 args).run Try.prog w = .ok (.enter g_p1 args) w) (hf_p1 : ∀ (a0 : Int) (r : Bool), p1 a0 = some r → AC Try.prog g_p1 ([iV a0] ++ c_p1.map AV.d) [] (fun res H' => res = [bV r] ∧ H' = [])) (r : Int) (h : slices_IndexFunc k p0 p1 = some r) : AC Try.prog 79 [.d (.sl none (intsD p0)), .d (.clo g_p1 c_p1)] [] (fun res H' => res = [iV r] ∧ H' = []) := by
 refine AC_of_body true Try.func79 rfl Try.ntmps79 (rvs := [.tmp 4]) rfl rfl (fun G hG => ?_)
 have hm : G.H.length = 0 := by rw [hG]; rfl
 have hz : zeroG G.H = true := by rw [hG]; rfl
 unfold slices_IndexFunc at h
 refine kR ?_
 refine kN 1 rfl ?_
 refine kO (fun s6 => []) (fun s6 => []) h (fun os6 h hks6 => ?_) (fun s6 h => ?_)
 ·refine kR ?_
  refine kM 1 rfl ?_
  refine AOps_q 7 _ rfl rfl rfl (QOp_len_sl _ _ _ _ _ _ _ (intsD_length _) rfl rfl rfl rfl Try.underlying25 rfl) ?_
  refine kN 1 rfl ?_
  refine ACode_block ?_
  refine ACode_loopW (fun k0 E H => ∃ (x1 : Int), E = [(0, .d (.sl none (intsD p0))), (1, .d (.clo g_p1 c_p1)), (7, iV (p0.length : Int)), (8, iV x1)] ∧ H = [] ∧ slices_IndexFunc_l0 p0 p1 k0 x1 = some os6) k _ _ (Weak_keep 0 hm [0, 1, 7, 8] [] _ _ rfl rfl rfl) ⟨_, rfl, rfl, h⟩ ?_
  clear h
  rintro k0 E H ⟨x1, rfl, rfl, h⟩
  cases k0 with
  | zero => cases (show (none : Option (Sum (Unit) (Int))) = some _ from h)
  | succ k0 =>
   rw [slices_IndexFunc_l0] at h
   refine kR ?_
   refine AOps_q 9 _ rfl rfl rfl (QOp_lss _ _ _ _ _ _ _ rfl rfl rfl) ?_
   refine AOps_nil ?_
   refine ACode_seq ?_
   refine kI h rfl (fun h _ => ?_) (fun h _ => ?_)
   ·refine ACode_skip ?_
    refine ACode_seq ?_
    refine ACode_block ?_
    refine kR ?_
    refine kN 2 rfl ?_
    refine kR ?_
    refine kM 3 rfl ?_
    obtain ⟨hc3, h⟩ := guardO h
    refine AOps_q 14 _ rfl rfl rfl (QOp_indexAddr_sl _ _ _ _ _ _ _ _ rfl Try.underlying25 Try.sizeOf2 hc3.1 (by rw [intsD_length]; exact hc3.2) rfl rfl) ?_
    refine AOps_q 15 _ rfl rfl rfl (QOp_load_pv _ _ _ _ _ rfl Try.isAgg2 rfl (intsD_get _ _ 0 (by omega))) ?_
    obtain ⟨r4, hr4, h⟩ := bindO h
    refine kC [] 16 (bV r4) [] rfl hg_p1 rfl (viewA_mapD _) (hf_p1 (p0.getD x1.toNat 0) _ hr4) rfl ?_
    refine AOps_nil ?_
    refine kI h rfl (fun h _ => ?_) (fun h _ => ?_)
    ·refine kR ?_
     refine kN 2 rfl ?_
     refine ACode_ret ?_
     cases h
     have h := hks6
     cases h
     exact ⟨_, _, fun r a w h => ⟨r, h⟩, _, _, [], _, (.cons (ResV_tmp _ _ rfl) .nil), rfl, rfl, rfl, rfl, rfl⟩
    refine ACode_skip ?_
    refine (ACode_region ?_)
    refine AOps_q 18 _ rfl rfl rfl (QOp_add _ _ _ _ _ _ _ rfl rfl rfl) ?_
    refine kN 1 rfl ?_
    exact ⟨k0, _, _, Nat.lt_succ_self _, Weak_keep 0 hm [0, 1, 7, 8] [] _ _ rfl rfl rfl, _, rfl, rfl, h⟩
   refine ACode_exit ?_
   cases h
   exact ⟨_, rfl, Weak_keep 0 hm [] [] _ _ rfl rfl rfl⟩
 refine kR ?_
 refine kN 1 rfl ?_
 refine ACode_ret ?_
 cases h
 exact ⟨_, _, fun r a w h => ⟨r, h⟩, _, _, [], _, (.cons (ResV_tmp _ _ rfl) .nil), rfl, rfl, rfl, rfl, rfl⟩

-- slices.ContainsFunc[[]int64,int64]
def slices_ContainsFunc (k : Nat) (p0 : List Int) (p1 : Int → Option (Bool)) : Option (Bool) :=
 (slices_IndexFunc k p0 p1).bind fun r1 => some (decide (0 ≤ r1))
set_option maxRecDepth 100000 in
theorem slices_ContainsFunc_ac (k : Nat) (p0 : List Int) (p1 : Int → Option (Bool)) (g_p1 : FuncId) (c_p1 : List D) (hg_p1 : ∀ args w, (callFunc g_p1 args).run Try.prog w = .ok (.enter g_p1 args) w) (hf_p1 : ∀ (a0 : Int) (r : Bool), p1 a0 = some r → AC Try.prog g_p1 ([iV a0] ++ c_p1.map AV.d) [] (fun res H' => res = [bV r] ∧ H' = [])) (r : Bool) (h : slices_ContainsFunc k p0 p1 = some r) : AC Try.prog 56 [.d (.sl none (intsD p0)), .d (.clo g_p1 c_p1)] [] (fun res H' => res = [bV r] ∧ H' = []) := by
 refine AC_of_body true Try.func56 rfl Try.ntmps56 (rvs := [.tmp 4]) rfl rfl (fun G hG => ?_)
 have hm : G.H.length = 0 := by rw [hG]; rfl
 have hz : zeroG G.H = true := by rw [hG]; rfl
 unfold slices_ContainsFunc at h
 refine kR ?_
 refine kN 1 rfl ?_
 refine kR ?_
 refine kM 2 rfl ?_
 obtain ⟨r1, hr1, h⟩ := bindO h
 refine kC [] 7 (iV r1) [] rfl Try.call79 rfl rfl (slices_IndexFunc_ac k p0 p1 g_p1 c_p1 hg_p1 hf_p1 _ hr1) rfl ?_
 refine AOps_q 8 _ rfl rfl rfl (QOp_geq _ _ _ _ _ _ _ rfl rfl rfl) ?_
 refine kN 1 rfl ?_
 refine ACode_ret ?_
 cases h
 exact ⟨_, _, fun r a w h => ⟨r, h⟩, _, _, [], _, (.cons (ResV_tmp _ _ rfl) .nil), rfl, rfl, rfl, rfl, rfl⟩

-- loop.example/g01362/impl.areIn$1
def impl_areIn_c1 (p0 : Int) (p1 : Int) (p2 : Int) : Bool :=
 !(impl_in p0 p1 p2)
set_option maxRecDepth 100000 in
theorem impl_areIn_c1_ac (p0 : Int) (p1 : Int) (p2 : Int) : AC Try.prog 57 [iV p0, .d (.pv ([iD p1]) 0), .d (.pv ([iD p2]) 0)] [] (fun res H' => res = [bV (impl_areIn_c1 p0 p1 p2)] ∧ H' = []) := by
 refine AC_of_body true Try.func57 rfl Try.ntmps57 (rvs := [.tmp 4]) rfl rfl (fun G hG => ?_)
 have hm : G.H.length = 0 := by rw [hG]; rfl
 have hz : zeroG G.H = true := by rw [hG]; rfl
 obtain ⟨r, h⟩ : ∃ r, impl_areIn_c1 p0 p1 p2 = r := ⟨_, rfl⟩
 rw [h]
 unfold impl_areIn_c1 at h
 refine kR ?_
 refine kN 1 rfl ?_
 refine kR ?_
 refine kM 1 rfl ?_
 refine AOps_q 6 _ rfl rfl rfl (QOp_load_pv _ _ _ _ _ rfl Try.isAgg2 rfl rfl) ?_
 refine AOps_q 7 _ rfl rfl rfl (QOp_load_pv _ _ _ _ _ rfl Try.isAgg2 rfl rfl) ?_
 refine kC [] 8 (bV (impl_in p0 p1 p2)) [] rfl Try.call54 rfl rfl (impl_in_ac p0 p1 p2) rfl ?_
 refine AOps_q 9 _ rfl rfl rfl (QOp_not _ _ _ rfl rfl) ?_
 refine kN 1 rfl ?_
 refine ACode_ret ?_
 cases h
 exact ⟨_, _, fun r a w h => ⟨r, h⟩, _, _, [], _, (.cons (ResV_tmp _ _ rfl) .nil), rfl, rfl, rfl, rfl, rfl⟩

-- loop.example/g01362/impl.areIn
def impl_areIn (k : Nat) (p0 : List Int) (p1 : Int) (p2 : Int) (p3 : Int) : Option (Bool) :=
 ((if decide ((impl_size p0) = p1) then (slices_ContainsFunc k p0 (fun a0 => some (impl_areIn_c1 a0 p2 p3))).bind fun r3 => some (!r3) else some false) : Option (Bool)).bind fun s4 => some s4
set_option maxRecDepth 100000 in
theorem impl_areIn_ac (k : Nat) (p0 : List Int) (p1 : Int) (p2 : Int) (p3 : Int) (r : Bool) (h : impl_areIn k p0 p1 p2 p3 = some r) : AC Try.prog 35 [.d (.sl none (intsD p0)), iV p1, iV p2, iV p3] [] (fun res H' => res = [bV r] ∧ H' = []) := by
 refine AC_of_body true Try.func35 rfl Try.ntmps35 (rvs := [.tmp 8]) rfl rfl (fun G hG => ?_)
 have hm : G.H.length = 0 := by rw [hG]; rfl
 have hz : zeroG G.H = true := by rw [hG]; rfl
 unfold impl_areIn at h
 refine kR ?_
 refine AOps_boxI 6 _ _ (iD p2) _ rfl (fun c hc => by cases hc with | head => rfl | tail _ h => cases h) rfl rfl rfl rfl rfl ?_
 refine AOps_boxI 7 _ _ (iD p3) _ rfl (fun c hc => by cases hc with | head => rfl | tail _ h => cases h) rfl rfl rfl rfl rfl ?_
 refine kN 1 rfl ?_
 refine kB (fun s4 => [(8, bV s4)]) (fun s4 => []) h (fun s4 h => ?_) (fun s4 h => ?_)
 ·refine (ACode_region ?_)
  refine kM 1 rfl ?_
  refine kC [] 10 (iV (impl_size p0)) [] rfl Try.call55 rfl rfl (impl_size_ac p0) rfl ?_
  refine kM 1 rfl ?_
  refine AOps_q 12 _ rfl rfl rfl (QOp_eql _ _ _ _ _ _ _ rfl rfl rfl) ?_
  refine kM 1 rfl ?_
  refine AOps_case 13 _ rfl (fun hb2 => ?_) (fun hb2 => ?_)
  ·have h := iteT hb2 h
   refine kM 1 rfl ?_
   refine AOps_q 15 _ rfl rfl rfl (QOp_makeFuncD _ _ _ _ rfl rfl rfl) ?_
   obtain ⟨r3, hr3, h⟩ := bindO h
   refine kC [] 16 (bV r3) [] rfl Try.call56 rfl rfl (slices_ContainsFunc_ac k p0 (fun a0 => some (impl_areIn_c1 a0 p2 p3)) 57 ([.pv ([iD p2]) 0, .pv ([iD p3]) 0]) Try.call57 (fun a0 r h => by cases h; exact impl_areIn_c1_ac a0 p2 p3) _ hr3) rfl ?_
   refine AOps_q 17 _ rfl rfl rfl (QOp_not _ _ _ rfl rfl) ?_
   refine kN 2 rfl ?_
   cases h
   exact Weak_keep 0 hm [8] [] _ _ rfl rfl rfl
  have h := iteF hb2 h
  refine AOps_skip 14 rfl rfl rfl ?_
  refine AOps_skip 15 rfl rfl rfl ?_
  refine AOps_skip 16 rfl rfl rfl ?_
  refine AOps_skip 17 rfl rfl rfl ?_
  refine kN 2 rfl ?_
  cases h
  exact Weak_keep 0 hm [8] [] _ _ rfl rfl rfl
 refine ACode_ret ?_
 cases h
 exact ⟨_, _, fun r a w h => ⟨r, h⟩, _, _, [], _, (.cons (ResV_tmp _ _ rfl) .nil), rfl, rfl, rfl, rfl, rfl⟩

-- loop.example/g01362/impl.number
def impl_number (p0 : Int) (p1 : Int) : Int :=
 w64 ((w64 ((w64 ((if p0 < p1 then p1 else p0) * (w64 ((if p0 < p1 then p1 else p0) - 1)))).tdiv 2)) + (if p1 < p0 then p1 else p0))
set_option maxRecDepth 100000 in
theorem impl_number_ac (p0 : Int) (p1 : Int) : AC Try.prog 38 [iV p0, iV p1] [] (fun res H' => res = [iV (impl_number p0 p1)] ∧ H' = []) := by
 refine AC_of_body true Try.func38 rfl Try.ntmps38 (rvs := [.tmp 4]) rfl rfl (fun G hG => ?_)
 have hm : G.H.length = 0 := by rw [hG]; rfl
 have hz : zeroG G.H = true := by rw [hG]; rfl
 obtain ⟨r, h⟩ : ∃ r, impl_number p0 p1 = r := ⟨_, rfl⟩
 rw [h]
 unfold impl_number at h
 refine kR ?_
 refine kN 1 rfl ?_
 refine kR ?_
 refine kM 2 rfl ?_
 refine AOps_q 7 _ rfl rfl rfl (QOp_min _ _ _ _ _ _ rfl rfl rfl rfl rfl) ?_
 refine kM 2 rfl ?_
 refine AOps_q 10 _ rfl rfl rfl (QOp_max _ _ _ _ _ _ rfl rfl rfl rfl rfl) ?_
 refine kN 2 rfl ?_
 refine kR ?_
 refine kM 2 rfl ?_
 refine AOps_q 13 _ rfl rfl rfl (QOp_sub _ _ _ _ _ _ _ rfl rfl rfl) ?_
 refine AOps_q 14 _ rfl rfl rfl (QOp_mul _ _ _ _ _ _ _ rfl rfl rfl) ?_
 refine AOps_q 15 _ rfl rfl rfl (QOp_quo _ _ _ _ _ _ _ (by decide) rfl rfl rfl) ?_
 refine kM 1 rfl ?_
 refine AOps_q 17 _ rfl rfl rfl (QOp_add _ _ _ _ _ _ _ rfl rfl rfl) ?_
 refine kN 1 rfl ?_
 refine ACode_ret ?_
 cases h
 exact ⟨_, _, fun r a w h => ⟨r, h⟩, _, _, [], _, (.cons (ResV_tmp _ _ rfl) .nil), rfl, rfl, rfl, rfl, rfl⟩

-- (*loop.example/g01362/impl.Colouring).put
def impl_Colouring_put (p0 : Col) (p1 : Int) (p2 : Int) (p3 : Int) : Option (Col) :=
 (if 0 ≤ (impl_number p1 p2) ∧ (impl_number p1 p2) < 136 then some (p0.set ((impl_number p1 p2).toNat) (toByte p3)) else none)
set_option maxRecDepth 100000 in
theorem impl_Colouring_put_ac (p0 : Col) (p1 : Int) (p2 : Int) (p3 : Int) (r : Col) (h : impl_Colouring_put p0 p1 p2 p3 = some r) : AC Try.prog 58 [.ptr 0 0, iV p1, iV p2, iV p3] [.box (colD p0)] (fun res H' => res = [] ∧ H' = [.box (colD r)]) := by
 refine AC_of_body true Try.func58 rfl Try.ntmps58 (rvs := []) rfl rfl (fun G hG => ?_)
 have hm : G.H.length = 1 := by rw [hG]; rfl
 have hz : zeroG G.H = true := by rw [hG]; rfl
 unfold impl_Colouring_put at h
 refine (ACode_last (l := [_, _, _, _, _, _, _, _, _]) mixed (by kernel_rfl) (by kernel_rfl) ?_)
 refine kQ 3 rfl ?_
 refine AQ_call 11 _ _ _ _ _ _ _ _ _ rfl rfl rfl rfl rfl rfl rfl Try.call38 rfl rfl rfl (impl_number_ac p1 p2) ?_
 refine kQ 1 rfl ?_
 refine AQ_q 13 _ rfl rfl rfl (QOp_toByte _ _ _ _ _ rfl rfl Try.underlying5 rfl) ?_
 refine AQ_q 14 _ rfl rfl rfl (QOp_nilCheck_ptr _ _ _ _ rfl rfl rfl rfl) ?_
 refine AQ_q 15 _ rfl rfl rfl (QOp_fieldAddr_ptr _ _ _ _ _ _ 2 _ _ rfl Try.underlying29 rfl _ Try.sizeOf22 rfl rfl rfl rfl) ?_
 obtain ⟨hc2, h⟩ := guardO h
 refine AQ_q 16 _ rfl rfl rfl (QOp_indexAddrA_ptr _ _ _ _ _ _ _ _ _ _ rfl Try.underlying22 Try.sizeOf5 hc2.1 hc2.2 rfl rfl rfl rfl) ?_
 refine AQ_nil ?_
 refine AOps_store1 _ _ _ _ _ _ (colD (p0.set ((impl_number p1 p2).toNat) (toByte p3))) _ rfl rfl rfl rfl rfl rfl rfl Try.sizeOf5 (by rw [colD_length]; omega) (colD_setE p0 ((impl_number p1 p2).toNat) (toByte p3)) ?_
 refine AOps_nil ?_
 cases h
 exact ⟨_, _, fun r a w h => ⟨r, h⟩, _, _, [], _, .nil, rfl, rfl, rfl, rfl, rfl⟩

-- loop.example/g01362/impl.made
def impl_made_l1 (p2 : Int → Int → Option (Int)) (x1 : Int) : Nat → Int → Col → Option (Col)
 | 0, _, _ => none
 | k1 + 1, x4, x5 => (if decide (x4 < x1) then (p2 x4 x1).bind fun r7 => (impl_Colouring_put x5 x4 x1 r7).bind fun r8 => impl_made_l1 p2 x1 k1 (w64 (x4 + 1)) r8 else some x5)
def impl_made_l0 (k : Nat) (p0 : Int) (p2 : Int → Int → Option (Int)) : Nat → Int → Col → Option (Col)
 | 0, _, _ => none
 | k0 + 1, x1, x2 => (if decide (x1 < p0) then (impl_made_l1 p2 x1 k 0 x2 : Option (Col)).bind fun s9 => impl_made_l0 k p0 p2 k0 (w64 (x1 + 1)) s9 else some x2)
def impl_made (k : Nat) (p0 : Int) (p1 : Int) (p2 : Int → Int → Option (Int)) : Option (Col) :=
 (impl_made_l0 k p0 p2 k 0 (⟨p0, p1, B136.zero⟩ : Col) : Option (Col)).bind fun s10 => some s10
set_option maxRecDepth 100000 in
theorem impl_made_ac (k : Nat) (p0 : Int) (p1 : Int) (p2 : Int → Int → Option (Int)) (g_p2 : FuncId) (c_p2 : List D) (hg_p2 : ∀ args w, (callFunc g_p2 args).run Try.prog w = .ok (.enter g_p2 args) w) (hf_p2 : ∀ (a0 : Int) (a1 : Int) (r : Int), p2 a0 a1 = some r → AC Try.prog g_p2 ([iV a0, iV a1] ++ c_p2.map AV.d) [] (fun res H' => res = [iV r] ∧ H' = [])) (r : Col) (h : impl_made k p0 p1 p2 = some r) : AC Try.prog 36 [iV p0, iV p1, .d (.clo g_p2 c_p2)] [] (fun res H' => res = [.d (.agg (colD r))] ∧ H' = []) := by
 refine AC_of_body true Try.func36 rfl Try.ntmps36 (rvs := [.cell 6 29]) rfl rfl (fun G hG => ?_)
 have hm : G.H.length = 0 := by rw [hG]; rfl
 have hz : zeroG G.H = true := by rw [hG]; rfl
 unfold impl_made at h
 refine kR ?_
 refine AOps_alloc 6 _ _ (colD Col.zero) (zero_of Try.typeInfo29 rfl) (by rfl) rfl rfl rfl rfl ?_
 refine AOps_nil ?_
 refine kR ?_
 refine kM 2 rfl ?_
 refine AOps_q 12 _ rfl rfl rfl (QOp_build _ _ [_, _] [0, 1] [iD p0, iD p1] _ (colD Col.zero) (colD (⟨p0, p1, B136.zero⟩ : Col)) [(0, 1), (1, 1), (2, 136)] rfl rfl Try.underlying29 (zero_of Try.typeInfo29 rfl) (fun w => by simp [Try.sizeOf2, Try.sizeOf2, Try.sizeOf22]) rfl (by rfl) (by rfl) (allc (ok1 rfl) (allc (ok1 rfl) (fun _ h => nomatch h)))) ?_
 refine AOps_alloc 7 _ _ (colD Col.zero) (zero_of Try.typeInfo29 rfl) (by rfl) rfl rfl rfl rfl ?_
 refine AOps_store _ _ _ _ _ _ (colD _) _ _ rfl rfl rfl rfl rfl rfl rfl (colD_one _) (by rw [colD_length]; exact Try.sizeOf29) (by rw [colD_length, colD_length]; decide) (colD_whole _ _) ?_
 refine AOps_nil ?_
 refine kB (fun s10 => [(6, .ptr 0 0), (7, .ptr 1 0)]) (fun s10 => [.box (colD Col.zero), .box (colD s10)]) h (fun s10 h => ?_) (fun s10 h => ?_)
 ·refine kR ?_
  refine kN 2 rfl ?_
  refine ACode_block ?_
  refine ACode_loopW (fun k0 E H => ∃ (x1 : Int) (x2 : Col), E = [(2, .d (.clo g_p2 c_p2)), (6, .ptr 0 0), (7, .ptr 1 0), (13, iV p0), (14, iV x1)] ∧ H = [.box (colD Col.zero), .box (colD x2)] ∧ impl_made_l0 k p0 p2 k0 x1 x2 = some s10) k _ _ (Weak_keep 0 hm [2, 6, 7, 13, 14] [0, 1] _ _ rfl rfl rfl) ⟨_, _, rfl, rfl, h⟩ ?_
  clear h
  rintro k0 E H ⟨x1, x2, rfl, rfl, h⟩
  cases k0 with
  | zero => cases (show (none : Option (Col)) = some _ from h)
  | succ k0 =>
   rw [impl_made_l0] at h
   refine kR ?_
   refine AOps_q 15 _ rfl rfl rfl (QOp_lss _ _ _ _ _ _ _ rfl rfl rfl) ?_
   refine AOps_nil ?_
   refine ACode_seq ?_
   refine kI h rfl (fun h _ => ?_) (fun h _ => ?_)
   ·refine ACode_skip ?_
    refine kB (fun s9 => [(2, .d (.clo g_p2 c_p2)), (6, .ptr 0 0), (7, .ptr 1 0), (13, iV p0), (14, iV x1)]) (fun s9 => [.box (colD Col.zero), .box (colD s9)]) h (fun s9 h => ?_) (fun s9 h => ?_)
    ·refine ACode_block ?_
     refine kR ?_
     refine kN 2 rfl ?_
     refine kR ?_
     refine kN 2 rfl ?_
     refine ACode_block ?_
     refine ACode_loopW (fun k1 E H => ∃ (x4 : Int) (x5 : Col), E = [(2, .d (.clo g_p2 c_p2)), (6, .ptr 0 0), (7, .ptr 1 0), (8, iV x1), (13, iV p0), (14, iV x1), (17, iV x1), (18, iV x4)] ∧ H = [.box (colD Col.zero), .box (colD x5)] ∧ impl_made_l1 p2 x1 k1 x4 x5 = some s9) k _ _ (Weak_keep 0 hm [2, 6, 7, 8, 13, 14, 17, 18] [0, 1] _ _ rfl rfl rfl) ⟨_, _, rfl, rfl, h⟩ ?_
     clear h
     rintro k1 E H ⟨x4, x5, rfl, rfl, h⟩
     cases k1 with
     | zero => cases (show (none : Option (Col)) = some _ from h)
     | succ k1 =>
      rw [impl_made_l1] at h
      refine kR ?_
      refine AOps_q 19 _ rfl rfl rfl (QOp_lss _ _ _ _ _ _ _ rfl rfl rfl) ?_
      refine AOps_nil ?_
      refine ACode_seq ?_
      refine kI h rfl (fun h _ => ?_) (fun h _ => ?_)
      ·refine ACode_skip ?_
       refine ACode_seq ?_
       refine ACode_block ?_
       refine kR ?_
       refine kN 2 rfl ?_
       refine (ACode_region ?_)
       refine kM 5 rfl ?_
       obtain ⟨r7, hr7, h⟩ := bindO h
       refine kC [] 26 (iV r7) [.box (colD Col.zero), .box (colD x5)] rfl hg_p2 rfl (viewA_mapD _) (hf_p2 x4 x1 _ hr7) rfl ?_
       obtain ⟨r8, hr8, h⟩ := bindO h
       refine kC [1] 27 (.tup []) [.box (colD Col.zero), .box (colD r8)] rfl Try.call58 rfl rfl (impl_Colouring_put_ac x5 x4 x1 r7 _ hr8) rfl ?_
       refine AOps_nil ?_
       refine (ACode_region ?_)
       refine AOps_q 28 _ rfl rfl rfl (QOp_add _ _ _ _ _ _ _ rfl rfl rfl) ?_
       refine kN 1 rfl ?_
       exact ⟨k1, _, _, Nat.lt_succ_self _, Weak_keep 0 hm [2, 6, 7, 8, 13, 14, 17, 18] [0, 1] _ _ rfl rfl rfl, _, _, rfl, rfl, h⟩
      refine ACode_exit ?_
      cases h
      exact Weak_keep 0 hm [2, 6, 7, 13, 14] [0, 1] _ _ rfl rfl rfl
    refine (ACode_region ?_)
    refine AOps_q 29 _ rfl rfl rfl (QOp_add _ _ _ _ _ _ _ rfl rfl rfl) ?_
    refine kN 1 rfl ?_
    exact ⟨k0, _, _, Nat.lt_succ_self _, Weak_keep 0 hm [2, 6, 7, 13, 14] [0, 1] _ _ rfl rfl rfl, _, _, rfl, rfl, h⟩
   refine ACode_exit ?_
   cases h
   exact Weak_keep 0 hm [6, 7] [0, 1] _ _ rfl rfl rfl
 refine kR ?_
 refine AOps_q 30 _ rfl rfl rfl (QOp_loadN_ptr _ _ _ _ _ _ _ rfl Try.isAgg29 Try.sizeOf29 rfl rfl (colD_all _) (colD_length _)) ?_
 refine AOps_store _ _ _ _ _ _ (colD _) _ _ rfl rfl rfl rfl rfl rfl rfl (colD_one _) (by rw [colD_length]; exact Try.sizeOf29) (by rw [colD_length, colD_length]; decide) (colD_whole _ _) ?_
 refine AOps_nil ?_
 refine ACode_ret ?_
 cases h
 exact ⟨_, _, fun r a w h => ⟨r, h⟩, _, _, [], _, (.cons (ResV_agg _ _ _ _ _ _ Try.isAgg29 Try.sizeOf29 rfl rfl (colD_take _) (colD_length _)) .nil), rfl, rfl, rfl, rfl, rfl⟩

-- loop.example/g01362/impl.ColouringOf$1
def impl_ColouringOf_c1 (p0 : Int) (p1 : Int) (p2 : List Int) : Option (Int) :=
 (if 0 ≤ (impl_number p0 p1) ∧ (impl_number p0 p1) < (p2.length : Int) then some (p2.getD (impl_number p0 p1).toNat 0) else none)
set_option maxRecDepth 100000 in
theorem impl_ColouringOf_c1_ac (p0 : Int) (p1 : Int) (p2 : List Int) (r : Int) (h : impl_ColouringOf_c1 p0 p1 p2 = some r) : AC Try.prog 37 [iV p0, iV p1, .d (.pv ([.sl none (intsD p2)]) 0)] [] (fun res H' => res = [iV r] ∧ H' = []) := by
 refine AC_of_body true Try.func37 rfl Try.ntmps37 (rvs := [.tmp 5]) rfl rfl (fun G hG => ?_)
 have hm : G.H.length = 0 := by rw [hG]; rfl
 have hz : zeroG G.H = true := by rw [hG]; rfl
 unfold impl_ColouringOf_c1 at h
 refine kR ?_
 refine kN 1 rfl ?_
 refine ACode_seq (ACode_quiet mixed (by kernel_rfl) ?_)
 refine AQ_q 6 _ rfl rfl rfl (QOp_load_pv _ _ _ _ _ rfl Try.isAgg25 rfl rfl) ?_
 refine kQ 2 rfl ?_
 refine AQ_call 9 _ _ _ _ _ _ _ _ _ rfl rfl rfl rfl rfl rfl rfl Try.call38 rfl rfl rfl (impl_number_ac p0 p1) ?_
 obtain ⟨hc2, h⟩ := guardO h
 refine AQ_q 10 _ rfl rfl rfl (QOp_indexAddr_sl _ _ _ _ _ _ _ _ rfl Try.underlying25 Try.sizeOf2 hc2.1 (by rw [intsD_length]; exact hc2.2) rfl rfl) ?_
 refine AQ_q 11 _ rfl rfl rfl (QOp_load_pv _ _ _ _ _ rfl Try.isAgg2 rfl (intsD_get _ _ 0 (by omega))) ?_
 refine kQ 1 rfl ?_
 refine AQ_nil ?_
 refine ACode_ret ?_
 cases h
 exact ⟨_, _, fun r a w h => ⟨r, h⟩, _, _, [], _, (.cons (ResV_tmp _ _ rfl) .nil), rfl, rfl, rfl, rfl, rfl⟩

-- loop.example/g01362/impl.ColouringOf
def impl_ColouringOf (k : Nat) (p0 : Int) (p1 : Int) (p2 : List Int) : Option (Col × Int) :=
 (((if !(impl_areSizes p0 p1) then some true else (impl_areIn k p2 (w64 ((w64 (p0 * (w64 (p0 - 1)))).tdiv 2)) 0 (w64 (p1 - 1))).bind fun r3 => some (!r3)) : Option (Bool)).bind fun s4 => (if s4 then some (.inr ((⟨0, 0, B136.zero⟩ : Col), 2)) else some (.inl ())) : Option (Sum (Unit) (Col × Int))).bind fun os6 => (match os6 with | .inl s6 => (impl_made k p0 p1 (fun a0 a1 => impl_ColouringOf_c1 a0 a1 p2)).bind fun r7 => some (r7, 0) | .inr rr => some rr)
set_option maxRecDepth 100000 in
theorem impl_ColouringOf_ac (k : Nat) (p0 : Int) (p1 : Int) (p2 : List Int) (r : Col × Int) (h : impl_ColouringOf k p0 p1 p2 = some r) : AC Try.prog 17 [iV p0, iV p1, .d (.sl none (intsD p2))] [] (fun res H' => res = [.d (.agg (colD r.1)), iV r.2] ∧ H' = []) := by
 refine AC_of_body true Try.func17 rfl Try.ntmps17 (rvs := [.cell 6 29, .tmp 7]) rfl rfl (fun G hG => ?_)
 have hm : G.H.length = 0 := by rw [hG]; rfl
 have hz : zeroG G.H = true := by rw [hG]; rfl
 unfold impl_ColouringOf at h
 refine kR ?_
 refine AOps_boxI 5 _ _ (.sl none (intsD p2)) _ rfl (fun c hc => by cases hc with | head => rfl | tail _ h => cases h) rfl rfl rfl rfl rfl ?_
 refine AOps_alloc 6 _ _ (colD Col.zero) (zero_of Try.typeInfo29 rfl) (by rfl) rfl rfl rfl rfl ?_
 refine kN 1 rfl ?_
 refine kO (fun s6 => [(0, iV p0), (1, iV p1), (5, .d (.pv ([.sl none (intsD p2)]) 0)), (6, .ptr 0 0)]) (fun s6 => [.box (colD Col.zero)]) h (fun os6 h hks6 => ?_) (fun s6 h => ?_)
 ·refine kB (fun s4 => [(0, iV p0), (1, iV p1), (5, .d (.pv ([.sl none (intsD p2)]) 0)), (6, .ptr 0 0), (23, bV s4)]) (fun s4 => [.box (colD Col.zero)]) h (fun s4 h => ?_) (fun s4 h => ?_)
  ·refine (ACode_region ?_)
   refine kM 2 rfl ?_
   refine kC [] 10 (bV (impl_areSizes p0 p1)) [.box (colD Col.zero)] rfl Try.call34 rfl rfl (impl_areSizes_ac p0 p1) rfl ?_
   refine AOps_q 11 _ rfl rfl rfl (QOp_not _ _ _ rfl rfl) ?_
   refine kM 1 rfl ?_
   refine AOps_case 12 _ rfl (fun hb2 => ?_) (fun hb2 => ?_)
   ·have h := iteT hb2 h
    refine AOps_skip 13 rfl rfl rfl ?_
    refine AOps_skip 14 rfl rfl rfl ?_
    refine AOps_skip 15 rfl rfl rfl ?_
    refine AOps_skip 16 rfl rfl rfl ?_
    refine AOps_skip 17 rfl rfl rfl ?_
    refine AOps_skip 18 rfl rfl rfl ?_
    refine AOps_skip 19 rfl rfl rfl ?_
    refine AOps_skip 20 rfl rfl rfl ?_
    refine AOps_skip 21 rfl rfl rfl ?_
    refine AOps_skip 22 rfl rfl rfl ?_
    refine kN 1 rfl ?_
    cases h
    exact Weak_keep 0 hm [0, 1, 5, 6, 23] [0] _ _ rfl rfl rfl
   have h := iteF hb2 h
   refine AOps_q 13 _ rfl rfl rfl (QOp_load_pv _ _ _ _ _ rfl Try.isAgg25 rfl rfl) ?_
   refine kM 2 rfl ?_
   refine AOps_q 16 _ rfl rfl rfl (QOp_sub _ _ _ _ _ _ _ rfl rfl rfl) ?_
   refine AOps_q 17 _ rfl rfl rfl (QOp_mul _ _ _ _ _ _ _ rfl rfl rfl) ?_
   refine AOps_q 18 _ rfl rfl rfl (QOp_quo _ _ _ _ _ _ _ (by decide) rfl rfl rfl) ?_
   refine kM 1 rfl ?_
   refine AOps_q 20 _ rfl rfl rfl (QOp_sub _ _ _ _ _ _ _ rfl rfl rfl) ?_
   obtain ⟨r3, hr3, h⟩ := bindO h
   refine kC [] 21 (bV r3) [.box (colD Col.zero)] rfl Try.call35 rfl rfl (impl_areIn_ac k p2 (w64 ((w64 (p0 * (w64 (p0 - 1)))).tdiv 2)) 0 (w64 (p1 - 1)) _ hr3) rfl ?_
   refine AOps_q 22 _ rfl rfl rfl (QOp_not _ _ _ rfl rfl) ?_
   refine kN 1 rfl ?_
   cases h
   exact Weak_keep 0 hm [0, 1, 5, 6, 23] [0] _ _ rfl rfl rfl
  refine kI h rfl (fun h _ => ?_) (fun h _ => ?_)
  ·refine kR ?_
   refine AOps_q 24 _ rfl rfl rfl (QOp_build _ _ [] [] [] _ (colD Col.zero) (colD (⟨0, 0, B136.zero⟩ : Col)) [(0, 1), (1, 1), (2, 136)] rfl rfl Try.underlying29 (zero_of Try.typeInfo29 rfl) (fun w => by simp [Try.sizeOf2, Try.sizeOf2, Try.sizeOf22]) rfl (by rfl) (by rfl) (fun _ h => nomatch h)) ?_
   refine AOps_store _ _ _ _ _ _ (colD _) _ _ rfl rfl rfl rfl rfl rfl rfl (colD_one _) (by rw [colD_length]; exact Try.sizeOf29) (by rw [colD_length, colD_length]; decide) (colD_whole _ _) ?_
   refine kN 1 rfl ?_
   refine ACode_ret ?_
   cases h
   have h := hks6
   cases h
   exact ⟨_, _, fun r a w h => ⟨r, h⟩, _, _, [], _, (.cons (ResV_agg _ _ _ _ _ _ Try.isAgg29 Try.sizeOf29 rfl rfl (colD_take _) (colD_length _)) (.cons (ResV_tmp _ _ rfl) .nil)), rfl, rfl, rfl, rfl, rfl⟩
  refine ACode_skip ?_
  cases h
  exact ⟨_, rfl, Weak_keep 0 hm [0, 1, 5, 6] [0] _ _ rfl rfl rfl⟩
 refine kR ?_
 refine kM 2 rfl ?_
 refine AOps_q 27 _ rfl rfl rfl (QOp_makeFuncD _ _ _ _ rfl rfl rfl) ?_
 obtain ⟨r7, hr7, h⟩ := bindO h
 refine kC [] 28 (.d (.agg (colD r7))) [.box (colD Col.zero)] rfl Try.call36 rfl rfl (impl_made_ac k p0 p1 (fun a0 a1 => impl_ColouringOf_c1 a0 a1 p2) 37 ([.pv ([.sl none (intsD p2)]) 0]) Try.call37 (fun a0 a1 r h => impl_ColouringOf_c1_ac a0 a1 p2 r h) _ hr7) rfl ?_
 refine AOps_store _ _ _ _ _ _ (colD _) _ _ rfl rfl rfl rfl rfl rfl rfl (colD_one _) (by rw [colD_length]; exact Try.sizeOf29) (by rw [colD_length, colD_length]; decide) (colD_whole _ _) ?_
 refine kN 1 rfl ?_
 refine ACode_ret ?_
 cases h
 exact ⟨_, _, fun r a w h => ⟨r, h⟩, _, _, [], _, (.cons (ResV_agg _ _ _ _ _ _ Try.isAgg29 Try.sizeOf29 rfl rfl (colD_take _) (colD_length _)) (.cons (ResV_tmp _ _ rfl) .nil)), rfl, rfl, rfl, rfl, rfl⟩

-- (*loop.example/g01362/impl.Colouring).edges
def impl_Colouring_edges (p0 : Col) : Int :=
 w64 ((w64 (p0.p * (w64 (p0.p - 1)))).tdiv 2)
set_option maxRecDepth 100000 in
theorem impl_Colouring_edges_ac (p0 : Col) : AC Try.prog 65 [.d (.pv (colD p0) 0)] [] (fun res H' => res = [iV (impl_Colouring_edges p0)] ∧ H' = []) := by
 refine AC_of_body true Try.func65 rfl Try.ntmps65 (rvs := [.tmp 2]) rfl rfl (fun G hG => ?_)
 have hm : G.H.length = 0 := by rw [hG]; rfl
 have hz : zeroG G.H = true := by rw [hG]; rfl
 obtain ⟨r, h⟩ : ∃ r, impl_Colouring_edges p0 = r := ⟨_, rfl⟩
 rw [h]
 unfold impl_Colouring_edges at h
 refine kR ?_
 refine kN 1 rfl ?_
 refine ACode_seq (ACode_quiet mixed (by kernel_rfl) ?_)
 refine kQ 1 rfl ?_
 refine AQ_q 4 _ rfl rfl rfl (QOp_nilCheck_pv _ _ _ rfl rfl) ?_
 refine AQ_q 5 _ rfl rfl rfl (QOp_fieldAddr_pv _ _ _ _ _ 0 _ _ rfl Try.underlying29 rfl _ Try.sizeOf2 rfl rfl) ?_
 refine AQ_q 6 _ rfl rfl rfl (QOp_load_pv _ _ _ _ _ rfl Try.isAgg2 rfl rfl) ?_
 refine kQ 1 rfl ?_
 refine AQ_q 8 _ rfl rfl rfl (QOp_nilCheck_pv _ _ _ rfl rfl) ?_
 refine AQ_q 9 _ rfl rfl rfl (QOp_fieldAddr_pv _ _ _ _ _ 0 _ _ rfl Try.underlying29 rfl _ Try.sizeOf2 rfl rfl) ?_
 refine AQ_q 10 _ rfl rfl rfl (QOp_load_pv _ _ _ _ _ rfl Try.isAgg2 rfl rfl) ?_
 refine AQ_q 11 _ rfl rfl rfl (QOp_sub _ _ _ _ _ _ _ rfl rfl rfl) ?_
 refine AQ_q 12 _ rfl rfl rfl (QOp_mul _ _ _ _ _ _ _ rfl rfl rfl) ?_
 refine AQ_q 13 _ rfl rfl rfl (QOp_quo _ _ _ _ _ _ _ (by decide) rfl rfl rfl) ?_
 refine kQ 1 rfl ?_
 refine AQ_nil ?_
 refine ACode_ret ?_
 cases h
 exact ⟨_, _, fun r a w h => ⟨r, h⟩, _, _, [], _, (.cons (ResV_tmp _ _ rfl) .nil), rfl, rfl, rfl, rfl, rfl⟩

-- (*loop.example/g01362/impl.Colouring).isColouring
def impl_Colouring_isColouring_l0 (k : Nat) (p0 : Col) : Nat → Int → Option (Sum (Unit) (Bool))
 | 0, _ => none
 | k0 + 1, x7 => (if decide (x7 < 136) then ((if 0 ≤ x7 ∧ x7 < 136 then letO (if decide (p0.k ≤ ((p0.e.get x7.toNat).toNat : Int)) then true else (if decide ((impl_Colouring_edges p0) ≤ x7) then !decide (((p0.e.get x7.toNat).toNat : Int) = 0) else false)) fun (s13 : Bool) => (if s13 then (some (.inr false)).bind fun rr => some (.inr rr) else some (.inl ())) else none) : Option (Sum (Unit) (Sum (Unit) (Bool)))).bind fun os15 => (match os15 with | .inl s15 => impl_Colouring_isColouring_l0 k p0 k0 (w64 (x7 + 1)) | .inr rr => some rr) else some (.inl ()))
def impl_Colouring_isColouring (k : Nat) (p0 : Col) : Option (Bool) :=
 (letO (if !(impl_in p0.p 1 17) then true else !(impl_in p0.k 1 4)) fun (s4 : Bool) => (if s4 then some (.inr false) else some (.inl ())) : Option (Sum (Unit) (Bool))).bind fun os6 => (match os6 with | .inl s6 => (impl_Colouring_isColouring_l0 k p0 k 0 : Option (Sum (Unit) (Bool))).bind fun os16 => (match os16 with | .inl s16 => some true | .inr rr => some rr) | .inr rr => some rr)
set_option maxRecDepth 100000 in
theorem impl_Colouring_isColouring_ac (k : Nat) (p0 : Col) (r : Bool) (h : impl_Colouring_isColouring k p0 = some r) : AC Try.prog 45 [.d (.pv (colD p0) 0)] [] (fun res H' => res = [bV r] ∧ H' = []) := by
 refine AC_of_body true Try.func45 rfl Try.ntmps45 (rvs := [.tmp 2]) rfl rfl (fun G hG => ?_)
 have hm : G.H.length = 0 := by rw [hG]; rfl
 have hz : zeroG G.H = true := by rw [hG]; rfl
 unfold impl_Colouring_isColouring at h
 refine kR ?_
 refine kN 1 rfl ?_
 refine kO (fun s6 => [(0, .d (.pv (colD p0) 0))]) (fun s6 => []) h (fun os6 h hks6 => ?_) (fun s6 h => ?_)
 ·refine kL (fun s4 => [(0, .d (.pv (colD p0) 0)), (18, bV s4)]) (fun s4 => []) h (fun s4 h => ?_) (fun s4 h => ?_)
  ·refine (ACode_region ?_)
   refine kM 1 rfl ?_
   refine AOps_q 6 _ rfl rfl rfl (QOp_nilCheck_pv _ _ _ rfl rfl) ?_
   refine AOps_q 7 _ rfl rfl rfl (QOp_fieldAddr_pv _ _ _ _ _ 0 _ _ rfl Try.underlying29 rfl _ Try.sizeOf2 rfl rfl) ?_
   refine AOps_q 8 _ rfl rfl rfl (QOp_load_pv _ _ _ _ _ rfl Try.isAgg2 rfl rfl) ?_
   refine kC [] 9 (bV (impl_in p0.p 1 17)) [] rfl Try.call54 rfl rfl (impl_in_ac p0.p 1 17) rfl ?_
   refine AOps_q 10 _ rfl rfl rfl (QOp_not _ _ _ rfl rfl) ?_
   refine kM 1 rfl ?_
   refine AOps_case 11 _ rfl (fun hb2 => ?_) (fun hb2 => ?_)
   ·have h := iteT hb2 h
    refine AOps_skip 12 rfl rfl rfl ?_
    refine AOps_skip 13 rfl rfl rfl ?_
    refine AOps_skip 14 rfl rfl rfl ?_
    refine AOps_skip 15 rfl rfl rfl ?_
    refine AOps_skip 16 rfl rfl rfl ?_
    refine AOps_skip 17 rfl rfl rfl ?_
    refine kN 1 rfl ?_
    cases h
    exact Weak_keep 0 hm [0, 18] [] _ _ rfl rfl rfl
   have h := iteF hb2 h
   refine kM 1 rfl ?_
   refine AOps_q 13 _ rfl rfl rfl (QOp_nilCheck_pv _ _ _ rfl rfl) ?_
   refine AOps_q 14 _ rfl rfl rfl (QOp_fieldAddr_pv _ _ _ _ _ 1 _ _ rfl Try.underlying29 rfl _ Try.sizeOf2 rfl rfl) ?_
   refine AOps_q 15 _ rfl rfl rfl (QOp_load_pv _ _ _ _ _ rfl Try.isAgg2 rfl rfl) ?_
   refine kC [] 16 (bV (impl_in p0.k 1 4)) [] rfl Try.call54 rfl rfl (impl_in_ac p0.k 1 4) rfl ?_
   refine AOps_q 17 _ rfl rfl rfl (QOp_not _ _ _ rfl rfl) ?_
   refine kN 1 rfl ?_
   cases h
   exact Weak_keep 0 hm [0, 18] [] _ _ rfl rfl rfl
  refine kI h rfl (fun h _ => ?_) (fun h _ => ?_)
  ·refine kR ?_
   refine kN 1 rfl ?_
   refine ACode_ret ?_
   cases h
   have h := hks6
   cases h
   exact ⟨_, _, fun r a w h => ⟨r, h⟩, _, _, [], _, (.cons (ResV_tmp _ _ rfl) .nil), rfl, rfl, rfl, rfl, rfl⟩
  refine ACode_skip ?_
  cases h
  exact ⟨_, rfl, Weak_keep 0 hm [0] [] _ _ rfl rfl rfl⟩
 refine kO (fun s16 => []) (fun s16 => []) h (fun os16 h hks16 => ?_) (fun s16 h => ?_)
 ·refine kR ?_
  refine kM 1 rfl ?_
  refine AOps_q 20 _ rfl rfl rfl (QOp_nilCheck_pv _ _ _ rfl rfl) ?_
  refine AOps_q 21 _ rfl rfl rfl (QOp_fieldAddr_pv _ _ _ _ _ 2 _ _ rfl Try.underlying29 rfl _ Try.sizeOf22 rfl rfl) ?_
  refine AOps_q 22 _ rfl rfl rfl (QOp_loadN_pv _ _ _ _ _ _ rfl Try.isAgg22 Try.sizeOf22 rfl (colD_edges _) (byD_length _)) ?_
  refine kN 1 rfl ?_
  refine ACode_block ?_
  refine ACode_loopW (fun k0 E H => ∃ (x7 : Int), E = [(0, .d (.pv (colD p0) 0)), (22, .d (.agg (byD p0.e))), (23, iV x7)] ∧ H = [] ∧ impl_Colouring_isColouring_l0 k p0 k0 x7 = some os16) k _ _ (Weak_keep 0 hm [0, 22, 23] [] _ _ rfl rfl rfl) ⟨_, rfl, rfl, h⟩ ?_
  clear h
  rintro k0 E H ⟨x7, rfl, rfl, h⟩
  cases k0 with
  | zero => cases (show (none : Option (Sum (Unit) (Bool))) = some _ from h)
  | succ k0 =>
   rw [impl_Colouring_isColouring_l0] at h
   refine kR ?_
   refine AOps_q 24 _ rfl rfl rfl (QOp_lss _ _ _ _ _ _ _ rfl rfl rfl) ?_
   refine AOps_nil ?_
   refine ACode_seq ?_
   refine kI h rfl (fun h _ => ?_) (fun h _ => ?_)
   ·refine ACode_skip ?_
    refine kO (fun s15 => [(0, .d (.pv (colD p0) 0)), (22, .d (.agg (byD p0.e))), (23, iV x7)]) (fun s15 => []) h (fun os15 h hks15 => ?_) (fun s15 h => ?_)
    ·refine ACode_block ?_
     refine kR ?_
     refine kM 1 rfl ?_
     obtain ⟨hc9, h⟩ := guardO h
     refine AOps_q 26 _ rfl rfl rfl (QOp_index_agg _ _ _ _ _ _ _ _ _ rfl Try.underlying22 Try.sizeOf5 Try.isAgg5 hc9.1 hc9.2 rfl rfl (byD_get _ _ (by omega))) ?_
     refine kN 2 rfl ?_
     refine kL (fun s13 => [(0, .d (.pv (colD p0) 0)), (22, .d (.agg (byD p0.e))), (23, iV x7), (43, bV s13)]) (fun s13 => []) h (fun s13 h => ?_) (fun s13 h => ?_)
     ·refine (ACode_region ?_)
      refine kM 1 rfl ?_
      refine AOps_q 28 _ rfl rfl rfl (QOp_fromByte _ _ _ _ _ rfl rfl Try.underlying2 wrap_i64_byte rfl) ?_
      refine kM 1 rfl ?_
      refine AOps_q 30 _ rfl rfl rfl (QOp_nilCheck_pv _ _ _ rfl rfl) ?_
      refine AOps_q 31 _ rfl rfl rfl (QOp_fieldAddr_pv _ _ _ _ _ 1 _ _ rfl Try.underlying29 rfl _ Try.sizeOf2 rfl rfl) ?_
      refine AOps_q 32 _ rfl rfl rfl (QOp_load_pv _ _ _ _ _ rfl Try.isAgg2 rfl rfl) ?_
      refine AOps_q 33 _ rfl rfl rfl (QOp_geq _ _ _ _ _ _ _ rfl rfl rfl) ?_
      refine kM 1 rfl ?_
      refine AOps_case 34 _ rfl (fun hb10 => ?_) (fun hb10 => ?_)
      ·have h := iteT hb10 h
       refine AOps_skip 35 rfl rfl rfl ?_
       refine AOps_skip 36 rfl rfl rfl ?_
       refine AOps_skip 37 rfl rfl rfl ?_
       refine AOps_skip 38 rfl rfl rfl ?_
       refine AOps_skip 39 rfl rfl rfl ?_
       refine AOps_skip 40 rfl rfl rfl ?_
       refine AOps_skip 41 rfl rfl rfl ?_
       refine AOps_skip 42 rfl rfl rfl ?_
       refine kN 1 rfl ?_
       cases h
       exact Weak_keep 0 hm [0, 22, 23, 43] [] _ _ rfl rfl rfl
      have h := iteF hb10 h
      refine kM 2 rfl ?_
      refine kC [] 37 (iV (impl_Colouring_edges p0)) [] rfl Try.call65 rfl rfl (impl_Colouring_edges_ac p0) rfl ?_
      refine AOps_q 38 _ rfl rfl rfl (QOp_geq _ _ _ _ _ _ _ rfl rfl rfl) ?_
      refine kM 1 rfl ?_
      refine AOps_case 39 _ rfl (fun hb12 => ?_) (fun hb12 => ?_)
      ·have h := iteT hb12 h
       refine kM 1 rfl ?_
       refine AOps_q 41 _ rfl rfl rfl (QOp_neq _ _ _ _ _ _ _ rfl rfl rfl) ?_
       refine kN 2 rfl ?_
       cases h
       exact Weak_keep 0 hm [0, 22, 23, 43] [] _ _ rfl rfl rfl
      have h := iteF hb12 h
      refine AOps_skip 40 rfl rfl rfl ?_
      refine AOps_skip 41 rfl rfl rfl ?_
      refine kN 2 rfl ?_
      cases h
      exact Weak_keep 0 hm [0, 22, 23, 43] [] _ _ rfl rfl rfl
     refine kI h rfl (fun h _ => ?_) (fun h _ => ?_)
     ·refine kR ?_
      refine kN 1 rfl ?_
      refine ACode_ret ?_
      obtain ⟨rr, hz17, h2⟩ := bindO h
      obtain rfl := Option.some.inj h2
      obtain rfl := Option.some.inj (show some rr = some _ from hks15)
      have h := hz17
      cases h
      have h := hks16
      cases h
      exact ⟨_, _, fun r a w h => ⟨r, h⟩, _, _, [], _, (.cons (ResV_tmp _ _ rfl) .nil), rfl, rfl, rfl, rfl, rfl⟩
     refine ACode_skip ?_
     cases h
     exact ⟨_, rfl, Weak_keep 0 hm [0, 22, 23] [] _ _ rfl rfl rfl⟩
    refine (ACode_region ?_)
    refine AOps_q 44 _ rfl rfl rfl (QOp_add _ _ _ _ _ _ _ rfl rfl rfl) ?_
    refine kN 1 rfl ?_
    exact ⟨k0, _, _, Nat.lt_succ_self _, Weak_keep 0 hm [0, 22, 23] [] _ _ rfl rfl rfl, _, rfl, rfl, h⟩
   refine ACode_exit ?_
   cases h
   exact ⟨_, rfl, Weak_keep 0 hm [] [] _ _ rfl rfl rfl⟩
 refine kR ?_
 refine kN 1 rfl ?_
 refine ACode_ret ?_
 cases h
 exact ⟨_, _, fun r a w h => ⟨r, h⟩, _, _, [], _, (.cons (ResV_tmp _ _ rfl) .nil), rfl, rfl, rfl, rfl, rfl⟩

-- (*loop.example/g01362/impl.Colouring).code
def impl_Colouring_code (k : Nat) (p0 : Col) (p1 : Option (Bool)) : Option (Int) :=
 (impl_Colouring_isColouring k p0).bind fun r1 => (if !r1 then some 1 else (p1).bind fun r3 => (if !r3 then some 2 else some 0))
set_option maxRecDepth 100000 in
theorem impl_Colouring_code_ac (k : Nat) (p0 : Col) (p1 : Option (Bool)) (g_p1 : FuncId) (c_p1 : List D) (hg_p1 : ∀ args w, (callFunc g_p1 args).run Try.prog w = .ok (.enter g_p1 args) w) (hf_p1 : ∀ (r : Bool), p1 = some r → AC Try.prog g_p1 ([] ++ c_p1.map AV.d) [] (fun res H' => res = [bV r] ∧ H' = [])) (r : Int) (h : impl_Colouring_code k p0 p1 = some r) : AC Try.prog 39 [.d (.pv (colD p0) 0), .d (.clo g_p1 c_p1)] [] (fun res H' => res = [iV r] ∧ H' = []) := by
 refine AC_of_body true Try.func39 rfl Try.ntmps39 (rvs := [.tmp 4]) rfl rfl (fun G hG => ?_)
 have hm : G.H.length = 0 := by rw [hG]; rfl
 have hz : zeroG G.H = true := by rw [hG]; rfl
 unfold impl_Colouring_code at h
 refine kR ?_
 refine kN 1 rfl ?_
 refine ACode_seq ?_
 refine ACode_block ?_
 refine kR ?_
 refine kM 1 rfl ?_
 obtain ⟨r1, hr1, h⟩ := bindO h
 refine kC [] 7 (bV r1) [] rfl Try.call45 rfl rfl (impl_Colouring_isColouring_ac k p0 _ hr1) rfl ?_
 refine AOps_q 8 _ rfl rfl rfl (QOp_not _ _ _ rfl rfl) ?_
 refine kN 1 rfl ?_
 refine kI h rfl (fun h _ => ?_) (fun h _ => ?_)
 ·refine kR ?_
  refine kN 1 rfl ?_
  refine ACode_ret ?_
  cases h
  exact ⟨_, _, fun r a w h => ⟨r, h⟩, _, _, [], _, (.cons (ResV_tmp _ _ rfl) .nil), rfl, rfl, rfl, rfl, rfl⟩
 refine kR ?_
 refine kM 1 rfl ?_
 obtain ⟨r3, hr3, h⟩ := bindO h
 refine kC [] 11 (bV r3) [] rfl hg_p1 rfl (viewA_mapD _) (hf_p1 _ hr3) rfl ?_
 refine AOps_q 12 _ rfl rfl rfl (QOp_not _ _ _ rfl rfl) ?_
 refine kN 1 rfl ?_
 refine kI h rfl (fun h _ => ?_) (fun h _ => ?_)
 ·refine kR ?_
  refine kN 1 rfl ?_
  refine ACode_ret ?_
  cases h
  exact ⟨_, _, fun r a w h => ⟨r, h⟩, _, _, [], _, (.cons (ResV_tmp _ _ rfl) .nil), rfl, rfl, rfl, rfl, rfl⟩
 refine ACode_skip ?_
 refine kR ?_
 refine kN 1 rfl ?_
 refine ACode_ret ?_
 cases h
 exact ⟨_, _, fun r a w h => ⟨r, h⟩, _, _, [], _, (.cons (ResV_tmp _ _ rfl) .nil), rfl, rfl, rfl, rfl, rfl⟩

-- loop.example/g01362/impl.isOrder
def impl_isOrder_l0 (r2 : List Int) : Nat → Int → Option (Sum (Unit) (Bool))
 | 0, _ => none
 | k0 + 1, x3 => (if decide (x3 < (r2.length : Int)) then (if 0 ≤ x3 ∧ x3 < (r2.length : Int) then (if !decide (x3 = (r2.getD x3.toNat 0)) then some (.inr false) else impl_isOrder_l0 r2 k0 (w64 (x3 + 1))) else none) else some (.inl ()))
def impl_isOrder (k : Nat) (p0 : List Int) (p1 : Int) : Option (Bool) :=
 ((sortedI p0).bind fun r2 => impl_isOrder_l0 r2 k 0 : Option (Sum (Unit) (Bool))).bind fun os7 => (match os7 with | .inl s7 => some (decide ((impl_size p0) = p1)) | .inr rr => some rr)
set_option maxRecDepth 100000 in
theorem impl_isOrder_ac (k : Nat) (p0 : List Int) (p1 : Int) (r : Bool) (h : impl_isOrder k p0 p1 = some r) : AC Try.prog 41 [.d (.sl none (intsD p0)), iV p1] [] (fun res H' => res = [bV r] ∧ H' = []) := by
 refine AC_of_body true Try.func41 rfl Try.ntmps41 (rvs := [.tmp 4]) rfl rfl (fun G hG => ?_)
 have hm : G.H.length = 0 := by rw [hG]; rfl
 have hz : zeroG G.H = true := by rw [hG]; rfl
 unfold impl_isOrder at h
 refine kR ?_
 refine kN 1 rfl ?_
 refine kO (fun s7 => [(0, .d (.sl none (intsD p0))), (1, iV p1)]) (fun s7 => []) h (fun os7 h hks7 => ?_) (fun s7 h => ?_)
 ·refine kR ?_
  refine kM 1 rfl ?_
  refine kC [] 8 (.d (.clo 82 [.pv ([.sl none (intsD p0)]) 0])) [] rfl Try.call60 rfl rfl (values_ac p0) rfl ?_
  obtain ⟨r2, hr2, h⟩ := bindO h
  refine kC [] 9 (.d (.sl none (intsD r2))) [] rfl Try.call59 rfl rfl (sorted_ac p0 _ hr2) rfl ?_
  refine AOps_q 10 _ rfl rfl rfl (QOp_len_sl _ _ _ _ _ _ _ (intsD_length _) rfl rfl rfl rfl Try.underlying25 rfl) ?_
  refine kN 1 rfl ?_
  refine ACode_block ?_
  refine ACode_loopW (fun k0 E H => ∃ (x3 : Int), E = [(0, .d (.sl none (intsD p0))), (1, iV p1), (9, .d (.sl none (intsD r2))), (10, iV (r2.length : Int)), (11, iV x3)] ∧ H = [] ∧ impl_isOrder_l0 r2 k0 x3 = some os7) k _ _ (Weak_keep 0 hm [0, 1, 9, 10, 11] [] _ _ rfl rfl rfl) ⟨_, rfl, rfl, h⟩ ?_
  clear h
  rintro k0 E H ⟨x3, rfl, rfl, h⟩
  cases k0 with
  | zero => cases (show (none : Option (Sum (Unit) (Bool))) = some _ from h)
  | succ k0 =>
   rw [impl_isOrder_l0] at h
   refine kR ?_
   refine AOps_q 12 _ rfl rfl rfl (QOp_lss _ _ _ _ _ _ _ rfl rfl rfl) ?_
   refine AOps_nil ?_
   refine ACode_seq ?_
   refine kI h rfl (fun h _ => ?_) (fun h _ => ?_)
   ·refine ACode_skip ?_
    refine ACode_seq ?_
    refine ACode_block ?_
    refine kR ?_
    refine kM 1 rfl ?_
    obtain ⟨hc5, h⟩ := guardO h
    refine AOps_q 14 _ rfl rfl rfl (QOp_indexAddr_sl _ _ _ _ _ _ _ _ rfl Try.underlying25 Try.sizeOf2 hc5.1 (by rw [intsD_length]; exact hc5.2) rfl rfl) ?_
    refine AOps_q 15 _ rfl rfl rfl (QOp_load_pv _ _ _ _ _ rfl Try.isAgg2 rfl (intsD_get _ _ 0 (by omega))) ?_
    refine kN 2 rfl ?_
    refine kR ?_
    refine kM 2 rfl ?_
    refine AOps_q 18 _ rfl rfl rfl (QOp_neq _ _ _ _ _ _ _ rfl rfl rfl) ?_
    refine AOps_nil ?_
    refine kI h rfl (fun h _ => ?_) (fun h _ => ?_)
    ·refine kR ?_
     refine kN 1 rfl ?_
     refine ACode_ret ?_
     cases h
     have h := hks7
     cases h
     exact ⟨_, _, fun r a w h => ⟨r, h⟩, _, _, [], _, (.cons (ResV_tmp _ _ rfl) .nil), rfl, rfl, rfl, rfl, rfl⟩
    refine ACode_skip ?_
    refine (ACode_region ?_)
    refine AOps_q 19 _ rfl rfl rfl (QOp_add _ _ _ _ _ _ _ rfl rfl rfl) ?_
    refine kN 1 rfl ?_
    exact ⟨k0, _, _, Nat.lt_succ_self _, Weak_keep 0 hm [0, 1, 9, 10, 11] [] _ _ rfl rfl rfl, _, rfl, rfl, h⟩
   refine ACode_exit ?_
   cases h
   exact ⟨_, rfl, Weak_keep 0 hm [0, 1] [] _ _ rfl rfl rfl⟩
 refine kR ?_
 refine kM 1 rfl ?_
 refine kC [] 21 (iV (impl_size p0)) [] rfl Try.call55 rfl rfl (impl_size_ac p0) rfl ?_
 refine kM 1 rfl ?_
 refine AOps_q 23 _ rfl rfl rfl (QOp_eql _ _ _ _ _ _ _ rfl rfl rfl) ?_
 refine kN 1 rfl ?_
 refine ACode_ret ?_
 cases h
 exact ⟨_, _, fun r a w h => ⟨r, h⟩, _, _, [], _, (.cons (ResV_tmp _ _ rfl) .nil), rfl, rfl, rfl, rfl, rfl⟩

-- loop.example/g01362/impl.RenumberPoints$1
def impl_RenumberPoints_c1 (k : Nat) (p0 : List Int) (p1 : Col) : Option (Bool) :=
 (impl_isOrder k p0 p1.p).bind fun r1 => some r1
set_option maxRecDepth 100000 in
theorem impl_RenumberPoints_c1_ac (k : Nat) (p0 : List Int) (p1 : Col) (r : Bool) (h : impl_RenumberPoints_c1 k p0 p1 = some r) : AC Try.prog 40 [.d (.pv ([.sl none (intsD p0)]) 0), .d (.pv (colD p1) 0)] [] (fun res H' => res = [bV r] ∧ H' = []) := by
 refine AC_of_body true Try.func40 rfl Try.ntmps40 (rvs := [.tmp 2]) rfl rfl (fun G hG => ?_)
 have hm : G.H.length = 0 := by rw [hG]; rfl
 have hz : zeroG G.H = true := by rw [hG]; rfl
 unfold impl_RenumberPoints_c1 at h
 refine kR ?_
 refine kN 1 rfl ?_
 refine kR ?_
 refine AOps_q 3 _ rfl rfl rfl (QOp_load_pv _ _ _ _ _ rfl Try.isAgg25 rfl rfl) ?_
 refine AOps_q 4 _ rfl rfl rfl (QOp_fieldAddr_pv _ _ _ _ _ 0 _ _ rfl Try.underlying29 rfl _ Try.sizeOf2 rfl rfl) ?_
 refine AOps_q 5 _ rfl rfl rfl (QOp_load_pv _ _ _ _ _ rfl Try.isAgg2 rfl rfl) ?_
 obtain ⟨r1, hr1, h⟩ := bindO h
 refine kC [] 6 (bV r1) [] rfl Try.call41 rfl rfl (impl_isOrder_ac k p0 p1.p _ hr1) rfl ?_
 refine kN 1 rfl ?_
 refine ACode_ret ?_
 cases h
 exact ⟨_, _, fun r a w h => ⟨r, h⟩, _, _, [], _, (.cons (ResV_tmp _ _ rfl) .nil), rfl, rfl, rfl, rfl, rfl⟩

-- (*loop.example/g01362/impl.Colouring).at
def impl_Colouring_at (p0 : Col) (p1 : Int) (p2 : Int) : Option (Int) :=
 (if 0 ≤ (impl_number p1 p2) ∧ (impl_number p1 p2) < 136 then some ((p0.get ((impl_number p1 p2).toNat)).toNat : Int) else none)
set_option maxRecDepth 100000 in
theorem impl_Colouring_at_ac (p0 : Col) (p1 : Int) (p2 : Int) (r : Int) (h : impl_Colouring_at p0 p1 p2 = some r) : AC Try.prog 61 [.d (.pv (colD p0) 0), iV p1, iV p2] [] (fun res H' => res = [iV r] ∧ H' = []) := by
 refine AC_of_body true Try.func61 rfl Try.ntmps61 (rvs := [.tmp 6]) rfl rfl (fun G hG => ?_)
 have hm : G.H.length = 0 := by rw [hG]; rfl
 have hz : zeroG G.H = true := by rw [hG]; rfl
 unfold impl_Colouring_at at h
 refine kR ?_
 refine kN 1 rfl ?_
 refine ACode_seq (ACode_quiet mixed (by kernel_rfl) ?_)
 refine kQ 3 rfl ?_
 refine AQ_call 10 _ _ _ _ _ _ _ _ _ rfl rfl rfl rfl rfl rfl rfl Try.call38 rfl rfl rfl (impl_number_ac p1 p2) ?_
 refine AQ_q 11 _ rfl rfl rfl (QOp_nilCheck_pv _ _ _ rfl rfl) ?_
 refine AQ_q 12 _ rfl rfl rfl (QOp_fieldAddr_pv _ _ _ _ _ 2 _ _ rfl Try.underlying29 rfl _ Try.sizeOf22 rfl rfl) ?_
 obtain ⟨hc2, h⟩ := guardO h
 refine AQ_q 13 _ rfl rfl rfl (QOp_indexAddrA_pv _ _ _ _ _ _ _ _ _ rfl Try.underlying22 Try.sizeOf5 hc2.1 hc2.2 rfl rfl) ?_
 refine AQ_q 14 _ rfl rfl rfl (QOp_load_pv _ _ _ _ _ rfl Try.isAgg5 rfl (colD_get _ _ (by omega))) ?_
 refine AQ_q 15 _ rfl rfl rfl (QOp_fromByte _ _ _ _ _ rfl rfl Try.underlying2 wrap_i64_byte rfl) ?_
 refine kQ 1 rfl ?_
 refine AQ_nil ?_
 refine ACode_ret ?_
 cases h
 exact ⟨_, _, fun r a w h => ⟨r, h⟩, _, _, [], _, (.cons (ResV_tmp _ _ rfl) .nil), rfl, rfl, rfl, rfl, rfl⟩

-- (*loop.example/g01362/impl.Colouring).renumbered
def impl_Colouring_renumbered_l1 (p0 : Col) (p1 : List Int) (x1 : Int) : Nat → Int → Col → Option (Col)
 | 0, _, _ => none
 | k1 + 1, x4, x5 => (if decide (x4 < x1) then (if 0 ≤ x4 ∧ x4 < (p1.length : Int) then (if 0 ≤ x1 ∧ x1 < (p1.length : Int) then (impl_Colouring_at p0 x4 x1).bind fun r9 => (impl_Colouring_put x5 (p1.getD x4.toNat 0) (p1.getD x1.toNat 0) r9).bind fun r10 => impl_Colouring_renumbered_l1 p0 p1 x1 k1 (w64 (x4 + 1)) r10 else none) else none) else some x5)
def impl_Colouring_renumbered_l0 (k : Nat) (p0 : Col) (p1 : List Int) : Nat → Int → Col → Option (Col)
 | 0, _, _ => none
 | k0 + 1, x1, x2 => (if decide (x1 < p0.p) then (impl_Colouring_renumbered_l1 p0 p1 x1 k 0 x2 : Option (Col)).bind fun s11 => impl_Colouring_renumbered_l0 k p0 p1 k0 (w64 (x1 + 1)) s11 else some x2)
def impl_Colouring_renumbered (k : Nat) (p0 : Col) (p1 : List Int) : Option (Col) :=
 (impl_Colouring_renumbered_l0 k p0 p1 k 0 (⟨p0.p, p0.k, B136.zero⟩ : Col) : Option (Col)).bind fun s12 => some s12
set_option maxRecDepth 100000 in
theorem impl_Colouring_renumbered_ac (k : Nat) (p0 : Col) (p1 : List Int) (r : Col) (h : impl_Colouring_renumbered k p0 p1 = some r) : AC Try.prog 42 [.d (.pv (colD p0) 0), .d (.sl none (intsD p1))] [] (fun res H' => res = [.d (.agg (colD r))] ∧ H' = []) := by
 refine AC_of_body true Try.func42 rfl Try.ntmps42 (rvs := [.cell 4 29]) rfl rfl (fun G hG => ?_)
 have hm : G.H.length = 0 := by rw [hG]; rfl
 have hz : zeroG G.H = true := by rw [hG]; rfl
 unfold impl_Colouring_renumbered at h
 refine kR ?_
 refine AOps_alloc 4 _ _ (colD Col.zero) (zero_of Try.typeInfo29 rfl) (by rfl) rfl rfl rfl rfl ?_
 refine AOps_nil ?_
 refine ACode_seqJ (fun E' H' => Weak 44 G E' H' [(0, .d (.pv (colD p0) 0)), (1, .d (.sl none (intsD p1))), (4, .ptr 0 0), (5, .ptr 1 0)] [.box (colD Col.zero), .box (colD (⟨p0.p, p0.k, B136.zero⟩ : Col))]) ?_ ?_
 ·refine ACode_anyLast (l := [_, _, _, _, _, _, _, _, _, _]) mixed (by kernel_rfl) ?_
  refine AAny_q 0 8 _ rfl (by kernel_rfl) rfl rfl rfl (QOp_move _ _ rfl rfl) ?_
  refine AAny_q 1 9 _ rfl (by kernel_rfl) rfl rfl rfl (QOp_nilCheck_pv _ _ _ rfl rfl) ?_
  refine AAny_q 2 10 _ rfl (by kernel_rfl) rfl rfl rfl (QOp_fieldAddr_pv _ _ _ _ _ 0 _ _ rfl Try.underlying29 rfl _ Try.sizeOf2 rfl rfl) ?_
  refine AAny_q 3 11 _ rfl (by kernel_rfl) rfl rfl rfl (QOp_load_pv _ _ _ _ _ rfl Try.isAgg2 rfl rfl) ?_
  refine AAny_q 4 12 _ rfl (by kernel_rfl) rfl rfl rfl (QOp_move _ _ rfl rfl) ?_
  refine AAny_q 5 13 _ rfl (by kernel_rfl) rfl rfl rfl (QOp_nilCheck_pv _ _ _ rfl rfl) ?_
  refine AAny_q 6 14 _ rfl (by kernel_rfl) rfl rfl rfl (QOp_fieldAddr_pv _ _ _ _ _ 1 _ _ rfl Try.underlying29 rfl _ Try.sizeOf2 rfl rfl) ?_
  refine AAny_q 7 15 _ rfl (by kernel_rfl) rfl rfl rfl (QOp_load_pv _ _ _ _ _ rfl Try.isAgg2 rfl rfl) ?_
  refine AAny_q 8 16 _ rfl (by kernel_rfl) rfl rfl rfl (QOp_build _ _ [_, _] [0, 1] [iD p0.p, iD p0.k] _ (colD Col.zero) (colD (⟨p0.p, p0.k, B136.zero⟩ : Col)) [(0, 1), (1, 1), (2, 136)] rfl rfl Try.underlying29 (zero_of Try.typeInfo29 rfl) (fun w => by simp [Try.sizeOf2, Try.sizeOf2, Try.sizeOf22]) rfl (by rfl) (by rfl) (allc (ok1 rfl) (allc (ok1 rfl) (fun _ h => nomatch h)))) ?_
  refine AAny_all [9] (by kernel_rfl) rfl (allc ?_ (fun _ h => nomatch h))
  refine AStep_of 9 rfl rfl (Bl_alloc _ _ (zero_of Try.typeInfo29 rfl) rfl) ?_
  refine AOps_alloc 5 _ _ (colD Col.zero) (zero_of Try.typeInfo29 rfl) (by rfl) rfl rfl rfl rfl ?_
  refine AOps_nil ?_
  refine AAny_done (by kernel_rfl) ?_
  refine AOps_store _ _ _ _ _ _ (colD _) _ _ rfl rfl rfl rfl rfl rfl rfl (colD_one _) (by rw [colD_length]; exact Try.sizeOf29) (by rw [colD_length, colD_length]; decide) (colD_whole _ _) ?_
  refine AOps_nil ?_
  exact Weak_keep 0 hm [0, 1, 4, 5] [0, 1] _ _ rfl rfl rfl
 intro E' H' hw
 refine ACode_weak hw ?_
 refine kB (fun s12 => [(4, .ptr 0 0), (5, .ptr 1 0)]) (fun s12 => [.box (colD Col.zero), .box (colD s12)]) h (fun s12 h => ?_) (fun s12 h => ?_)
 ·refine kR ?_
  refine kM 1 rfl ?_
  refine AOps_q 18 _ rfl rfl rfl (QOp_nilCheck_pv _ _ _ rfl rfl) ?_
  refine AOps_q 19 _ rfl rfl rfl (QOp_fieldAddr_pv _ _ _ _ _ 0 _ _ rfl Try.underlying29 rfl _ Try.sizeOf2 rfl rfl) ?_
  refine AOps_q 20 _ rfl rfl rfl (QOp_load_pv _ _ _ _ _ rfl Try.isAgg2 rfl rfl) ?_
  refine kN 1 rfl ?_
  refine ACode_block ?_
  refine ACode_loopW (fun k0 E H => ∃ (x1 : Int) (x2 : Col), E = [(0, .d (.pv (colD p0) 0)), (1, .d (.sl none (intsD p1))), (4, .ptr 0 0), (5, .ptr 1 0), (20, iV p0.p), (21, iV x1)] ∧ H = [.box (colD Col.zero), .box (colD x2)] ∧ impl_Colouring_renumbered_l0 k p0 p1 k0 x1 x2 = some s12) k _ _ (Weak_keep 0 hm [0, 1, 4, 5, 20, 21] [0, 1] _ _ rfl rfl rfl) ⟨_, _, rfl, rfl, h⟩ ?_
  clear h
  rintro k0 E H ⟨x1, x2, rfl, rfl, h⟩
  cases k0 with
  | zero => cases (show (none : Option (Col)) = some _ from h)
  | succ k0 =>
   rw [impl_Colouring_renumbered_l0] at h
   refine kR ?_
   refine AOps_q 22 _ rfl rfl rfl (QOp_lss _ _ _ _ _ _ _ rfl rfl rfl) ?_
   refine AOps_nil ?_
   refine ACode_seq ?_
   refine kI h rfl (fun h _ => ?_) (fun h _ => ?_)
   ·refine ACode_skip ?_
    refine kB (fun s11 => [(0, .d (.pv (colD p0) 0)), (1, .d (.sl none (intsD p1))), (4, .ptr 0 0), (5, .ptr 1 0), (20, iV p0.p), (21, iV x1)]) (fun s11 => [.box (colD Col.zero), .box (colD s11)]) h (fun s11 h => ?_) (fun s11 h => ?_)
    ·refine ACode_block ?_
     refine kR ?_
     refine kN 2 rfl ?_
     refine kR ?_
     refine kN 2 rfl ?_
     refine ACode_block ?_
     refine ACode_loopW (fun k1 E H => ∃ (x4 : Int) (x5 : Col), E = [(0, .d (.pv (colD p0) 0)), (1, .d (.sl none (intsD p1))), (4, .ptr 0 0), (5, .ptr 1 0), (6, iV x1), (20, iV p0.p), (21, iV x1), (24, iV x1), (25, iV x4)] ∧ H = [.box (colD Col.zero), .box (colD x5)] ∧ impl_Colouring_renumbered_l1 p0 p1 x1 k1 x4 x5 = some s11) k _ _ (Weak_keep 0 hm [0, 1, 4, 5, 6, 20, 21, 24, 25] [0, 1] _ _ rfl rfl rfl) ⟨_, _, rfl, rfl, h⟩ ?_
     clear h
     rintro k1 E H ⟨x4, x5, rfl, rfl, h⟩
     cases k1 with
     | zero => cases (show (none : Option (Col)) = some _ from h)
     | succ k1 =>
      rw [impl_Colouring_renumbered_l1] at h
      refine kR ?_
      refine AOps_q 26 _ rfl rfl rfl (QOp_lss _ _ _ _ _ _ _ rfl rfl rfl) ?_
      refine AOps_nil ?_
      refine ACode_seq ?_
      refine kI h rfl (fun h _ => ?_) (fun h _ => ?_)
      ·refine ACode_skip ?_
       refine ACode_seq ?_
       refine ACode_block ?_
       refine kR ?_
       refine kN 2 rfl ?_
       refine (ACode_last (l := [_, _, _, _, _, _, _, _, _, _, _, _]) mixed (by kernel_rfl) (by kernel_rfl) ?_)
       refine kQ 2 rfl ?_
       obtain ⟨hc7, h⟩ := guardO h
       refine AQ_q 30 _ rfl rfl rfl (QOp_indexAddr_sl _ _ _ _ _ _ _ _ rfl Try.underlying25 Try.sizeOf2 hc7.1 (by rw [intsD_length]; exact hc7.2) rfl rfl) ?_
       refine AQ_q 31 _ rfl rfl rfl (QOp_load_pv _ _ _ _ _ rfl Try.isAgg2 rfl (intsD_get _ _ 0 (by omega))) ?_
       refine kQ 2 rfl ?_
       obtain ⟨hc8, h⟩ := guardO h
       refine AQ_q 34 _ rfl rfl rfl (QOp_indexAddr_sl _ _ _ _ _ _ _ _ rfl Try.underlying25 Try.sizeOf2 hc8.1 (by rw [intsD_length]; exact hc8.2) rfl rfl) ?_
       refine AQ_q 35 _ rfl rfl rfl (QOp_load_pv _ _ _ _ _ rfl Try.isAgg2 rfl (intsD_get _ _ 0 (by omega))) ?_
       refine kQ 3 rfl ?_
       obtain ⟨r9, hr9, h⟩ := bindO h
       refine AQ_call 39 _ _ _ _ _ _ _ _ _ rfl rfl rfl rfl rfl rfl rfl Try.call61 rfl rfl rfl (impl_Colouring_at_ac p0 x4 x1 _ hr9) ?_
       refine AQ_nil ?_
       obtain ⟨r10, hr10, h⟩ := bindO h
       refine kC [1] 40 (.tup []) [.box (colD Col.zero), .box (colD r10)] rfl Try.call58 rfl rfl (impl_Colouring_put_ac x5 (p1.getD x4.toNat 0) (p1.getD x1.toNat 0) r9 _ hr10) rfl ?_
       refine AOps_nil ?_
       refine (ACode_region ?_)
       refine AOps_q 41 _ rfl rfl rfl (QOp_add _ _ _ _ _ _ _ rfl rfl rfl) ?_
       refine kN 1 rfl ?_
       exact ⟨k1, _, _, Nat.lt_succ_self _, Weak_keep 0 hm [0, 1, 4, 5, 6, 20, 21, 24, 25] [0, 1] _ _ rfl rfl rfl, _, _, rfl, rfl, h⟩
      refine ACode_exit ?_
      cases h
      exact Weak_keep 0 hm [0, 1, 4, 5, 20, 21] [0, 1] _ _ rfl rfl rfl
    refine (ACode_region ?_)
    refine AOps_q 42 _ rfl rfl rfl (QOp_add _ _ _ _ _ _ _ rfl rfl rfl) ?_
    refine kN 1 rfl ?_
    exact ⟨k0, _, _, Nat.lt_succ_self _, Weak_keep 0 hm [0, 1, 4, 5, 20, 21] [0, 1] _ _ rfl rfl rfl, _, _, rfl, rfl, h⟩
   refine ACode_exit ?_
   cases h
   exact Weak_keep 0 hm [4, 5] [0, 1] _ _ rfl rfl rfl
 refine kR ?_
 refine AOps_q 43 _ rfl rfl rfl (QOp_loadN_ptr _ _ _ _ _ _ _ rfl Try.isAgg29 Try.sizeOf29 rfl rfl (colD_all _) (colD_length _)) ?_
 refine AOps_store _ _ _ _ _ _ (colD _) _ _ rfl rfl rfl rfl rfl rfl rfl (colD_one _) (by rw [colD_length]; exact Try.sizeOf29) (by rw [colD_length, colD_length]; decide) (colD_whole _ _) ?_
 refine AOps_nil ?_
 refine ACode_ret ?_
 cases h
 exact ⟨_, _, fun r a w h => ⟨r, h⟩, _, _, [], _, (.cons (ResV_agg _ _ _ _ _ _ Try.isAgg29 Try.sizeOf29 rfl rfl (colD_take _) (colD_length _)) .nil), rfl, rfl, rfl, rfl, rfl⟩

-- loop.example/g01362/impl.RenumberPoints
def impl_RenumberPoints (k : Nat) (p0 : Col) (p1 : List Int) : Option (Col × Int) :=
 (impl_Colouring_code k p0 (impl_RenumberPoints_c1 k p1 p0)).bind fun r1 => (if !decide (r1 = 0) then some ((⟨0, 0, B136.zero⟩ : Col), r1) else (impl_Colouring_renumbered k p0 p1).bind fun r3 => some (r3, 0))
set_option maxRecDepth 100000 in
theorem impl_RenumberPoints_ac (k : Nat) (p0 : Col) (p1 : List Int) (r : Col × Int) (h : impl_RenumberPoints k p0 p1 = some r) : AC Try.prog 18 [.d (.agg (colD p0)), .d (.sl none (intsD p1))] [] (fun res H' => res = [.d (.agg (colD r.1)), iV r.2] ∧ H' = []) := by
 refine AC_of_body true Try.func18 rfl Try.ntmps18 (rvs := [.cell 4 29, .tmp 5]) rfl rfl (fun G hG => ?_)
 have hm : G.H.length = 0 := by rw [hG]; rfl
 have hz : zeroG G.H = true := by rw [hG]; rfl
 unfold impl_RenumberPoints at h
 refine kR ?_
 refine AOps_boxI 2 _ _ (.agg (colD p0)) (colD p0) rfl (colD_one _) rfl rfl rfl rfl rfl ?_
 refine AOps_boxI 3 _ _ (.sl none (intsD p1)) _ rfl (fun c hc => by cases hc with | head => rfl | tail _ h => cases h) rfl rfl rfl rfl rfl ?_
 refine AOps_alloc 4 _ _ (colD Col.zero) (zero_of Try.typeInfo29 rfl) (by rfl) rfl rfl rfl rfl ?_
 refine kN 1 rfl ?_
 refine ACode_seq ?_
 refine kR ?_
 refine AOps_q 7 _ rfl rfl rfl (QOp_makeFuncD _ _ _ _ rfl rfl rfl) ?_
 obtain ⟨r1, hr1, h⟩ := bindO h
 refine kC [] 8 (iV r1) [.box (colD Col.zero)] rfl Try.call39 rfl rfl (impl_Colouring_code_ac k p0 (impl_RenumberPoints_c1 k p1 p0) 40 ([.pv ([.sl none (intsD p1)]) 0, .pv (colD p0) 0]) Try.call40 (fun r h => impl_RenumberPoints_c1_ac k p1 p0 r h) _ hr1) rfl ?_
 refine kN 1 rfl ?_
 refine kR ?_
 refine kM 1 rfl ?_
 refine AOps_q 10 _ rfl rfl rfl (QOp_neq _ _ _ _ _ _ _ rfl rfl rfl) ?_
 refine AOps_nil ?_
 refine kI h rfl (fun h _ => ?_) (fun h _ => ?_)
 ·refine kR ?_
  refine AOps_q 11 _ rfl rfl rfl (QOp_build _ _ [] [] [] _ (colD Col.zero) (colD (⟨0, 0, B136.zero⟩ : Col)) [(0, 1), (1, 1), (2, 136)] rfl rfl Try.underlying29 (zero_of Try.typeInfo29 rfl) (fun w => by simp [Try.sizeOf2, Try.sizeOf2, Try.sizeOf22]) rfl (by rfl) (by rfl) (fun _ h => nomatch h)) ?_
  refine kM 1 rfl ?_
  refine AOps_store _ _ _ _ _ _ (colD _) _ _ rfl rfl rfl rfl rfl rfl rfl (colD_one _) (by rw [colD_length]; exact Try.sizeOf29) (by rw [colD_length, colD_length]; decide) (colD_whole _ _) ?_
  refine kN 1 rfl ?_
  refine ACode_ret ?_
  cases h
  exact ⟨_, _, fun r a w h => ⟨r, h⟩, _, _, [], _, (.cons (ResV_agg _ _ _ _ _ _ Try.isAgg29 Try.sizeOf29 rfl rfl (colD_take _) (colD_length _)) (.cons (ResV_tmp _ _ rfl) .nil)), rfl, rfl, rfl, rfl, rfl⟩
 refine ACode_skip ?_
 refine kR ?_
 refine AOps_q 13 _ rfl rfl rfl (QOp_load_pv _ _ _ _ _ rfl Try.isAgg25 rfl rfl) ?_
 obtain ⟨r3, hr3, h⟩ := bindO h
 refine kC [] 14 (.d (.agg (colD r3))) [.box (colD Col.zero)] rfl Try.call42 rfl rfl (impl_Colouring_renumbered_ac k p0 p1 _ hr3) rfl ?_
 refine AOps_store _ _ _ _ _ _ (colD _) _ _ rfl rfl rfl rfl rfl rfl rfl (colD_one _) (by rw [colD_length]; exact Try.sizeOf29) (by rw [colD_length, colD_length]; decide) (colD_whole _ _) ?_
 refine kN 1 rfl ?_
 refine ACode_ret ?_
 cases h
 exact ⟨_, _, fun r a w h => ⟨r, h⟩, _, _, [], _, (.cons (ResV_agg _ _ _ _ _ _ Try.isAgg29 Try.sizeOf29 rfl rfl (colD_take _) (colD_length _)) (.cons (ResV_tmp _ _ rfl) .nil)), rfl, rfl, rfl, rfl, rfl⟩

-- loop.example/g01362/impl.always
def impl_always : Bool :=
 true
set_option maxRecDepth 100000 in
theorem impl_always_ac : AC Try.prog 29 [] [] (fun res H' => res = [bV (impl_always)] ∧ H' = []) := by
 refine AC_of_body true Try.func29 rfl Try.ntmps29 (rvs := [.tmp 0]) rfl rfl (fun G hG => ?_)
 have hm : G.H.length = 0 := by rw [hG]; rfl
 have hz : zeroG G.H = true := by rw [hG]; rfl
 obtain ⟨r, h⟩ : ∃ r, impl_always = r := ⟨_, rfl⟩
 rw [h]
 unfold impl_always at h
 refine kR ?_
 refine kN 1 rfl ?_
 refine kR ?_
 refine kN 1 rfl ?_
 refine ACode_ret ?_
 cases h
 exact ⟨_, _, fun r a w h => ⟨r, h⟩, _, _, [], _, (.cons (ResV_tmp _ _ rfl) .nil), rfl, rfl, rfl, rfl, rfl⟩

-- (*loop.example/g01362/impl.Colouring).greatest$1
def impl_Colouring_greatest_c1 (p0 : List Int) (p1 : List Int) : Bool × List Int :=
 letO (if decide ((p1.length : Int) < (p0.length : Int)) then p0 else p1) fun (s2 : List Int) => (true, s2)
set_option maxRecDepth 100000 in
theorem impl_Colouring_greatest_c1_ac (p0 : List Int) (p1 : List Int) : AC Try.prog 84 [.d (.sl none (intsD p0)), .ptr 0 0] [.box [.sl none (intsD p1)]] (fun res H' => res = [bV ((impl_Colouring_greatest_c1 p0 p1).1)] ∧ H' = [.box [.sl none (intsD ((impl_Colouring_greatest_c1 p0 p1).2))]]) := by
 refine AC_of_body true Try.func84 rfl Try.ntmps84 (rvs := [.tmp 3]) rfl rfl (fun G hG => ?_)
 have hm : G.H.length = 1 := by rw [hG]; rfl
 have hz : zeroG G.H = true := by rw [hG]; rfl
 obtain ⟨r, h⟩ : ∃ r, impl_Colouring_greatest_c1 p0 p1 = r := ⟨_, rfl⟩
 rw [h]
 unfold impl_Colouring_greatest_c1 at h
 refine kR ?_
 refine kN 1 rfl ?_
 refine kL (fun s2 => []) (fun s2 => [.box [.sl none (intsD s2)]]) h (fun s2 h => ?_) (fun s2 h => ?_)
 ·refine kR ?_
  refine kM 1 rfl ?_
  refine AOps_q 5 _ rfl rfl rfl (QOp_len_sl _ _ _ _ _ _ _ (intsD_length _) rfl rfl rfl rfl Try.underlying25 rfl) ?_
  refine AOps_q 6 _ rfl rfl rfl (QOp_load_ptr _ _ _ _ _ _ rfl Try.isAgg25 rfl rfl rfl) ?_
  refine AOps_q 7 _ rfl rfl rfl (QOp_len_sl _ _ _ _ _ _ _ (intsD_length _) rfl rfl rfl rfl Try.underlying25 rfl) ?_
  refine AOps_q 8 _ rfl rfl rfl (QOp_gtr _ _ _ _ _ _ _ rfl rfl rfl) ?_
  refine AOps_nil ?_
  refine kI h rfl (fun h _ => ?_) (fun h _ => ?_)
  ·refine (ACode_region ?_)
   refine kM 1 rfl ?_
   refine AOps_store1 _ _ _ _ _ _ _ _ rfl rfl rfl rfl rfl rfl rfl Try.sizeOf25 (Nat.le_of_ble_eq_true rfl) rfl ?_
   refine AOps_nil ?_
   cases h
   exact Weak_keep 1 hm [] [] _ _ rfl rfl rfl
  refine ACode_skip ?_
  cases h
  exact Weak_keep 1 hm [] [] _ _ rfl rfl rfl
 refine kR ?_
 refine kN 1 rfl ?_
 refine ACode_ret ?_
 cases h
 exact ⟨_, _, fun r a w h => ⟨r, h⟩, _, _, [], _, (.cons (ResV_tmp _ _ rfl) .nil), rfl, rfl, rfl, rfl, rfl⟩

-- (*loop.example/g01362/impl.Colouring).joins
def impl_Colouring_joins (p0 : Col) (p1 : Int) (p2 : Int) (p3 : Int) : Option (Bool) :=
 ((if !decide (p1 = p2) then (impl_Colouring_at p0 p1 p2).bind fun r2 => some (decide (r2 = p3)) else some false) : Option (Bool)).bind fun s3 => some s3
set_option maxRecDepth 100000 in
theorem impl_Colouring_joins_ac (p0 : Col) (p1 : Int) (p2 : Int) (p3 : Int) (r : Bool) (h : impl_Colouring_joins p0 p1 p2 p3 = some r) : AC Try.prog 77 [.d (.pv (colD p0) 0), iV p1, iV p2, iV p3] [] (fun res H' => res = [bV r] ∧ H' = []) := by
 refine AC_of_body true Try.func77 rfl Try.ntmps77 (rvs := [.tmp 8]) rfl rfl (fun G hG => ?_)
 have hm : G.H.length = 0 := by rw [hG]; rfl
 have hz : zeroG G.H = true := by rw [hG]; rfl
 unfold impl_Colouring_joins at h
 refine kR ?_
 refine kN 1 rfl ?_
 refine kB (fun s3 => [(8, bV s3)]) (fun s3 => []) h (fun s3 h => ?_) (fun s3 h => ?_)
 ·refine (ACode_region ?_)
  refine kM 2 rfl ?_
  refine AOps_q 11 _ rfl rfl rfl (QOp_neq _ _ _ _ _ _ _ rfl rfl rfl) ?_
  refine kM 1 rfl ?_
  refine AOps_case 12 _ rfl (fun hb1 => ?_) (fun hb1 => ?_)
  ·have h := iteT hb1 h
   refine kM 3 rfl ?_
   obtain ⟨r2, hr2, h⟩ := bindO h
   refine kC [] 16 (iV r2) [] rfl Try.call61 rfl rfl (impl_Colouring_at_ac p0 p1 p2 _ hr2) rfl ?_
   refine kM 1 rfl ?_
   refine AOps_q 18 _ rfl rfl rfl (QOp_eql _ _ _ _ _ _ _ rfl rfl rfl) ?_
   refine kN 2 rfl ?_
   cases h
   exact Weak_keep 0 hm [8] [] _ _ rfl rfl rfl
  have h := iteF hb1 h
  refine AOps_skip 13 rfl rfl rfl ?_
  refine AOps_skip 14 rfl rfl rfl ?_
  refine AOps_skip 15 rfl rfl rfl ?_
  refine AOps_skip 16 rfl rfl rfl ?_
  refine AOps_skip 17 rfl rfl rfl ?_
  refine AOps_skip 18 rfl rfl rfl ?_
  refine kN 2 rfl ?_
  cases h
  exact Weak_keep 0 hm [8] [] _ _ rfl rfl rfl
 refine ACode_ret ?_
 cases h
 exact ⟨_, _, fun r a w h => ⟨r, h⟩, _, _, [], _, (.cons (ResV_tmp _ _ rfl) .nil), rfl, rfl, rfl, rfl, rfl⟩

-- (*loop.example/g01362/impl.Colouring).goesWith$1
def impl_Colouring_goesWith_c1 (p0 : Int) (p1 : Col) (p2 : Int) (p3 : Int) : Option (Bool) :=
 (impl_Colouring_joins p1 p0 p2 p3).bind fun r1 => some (!r1)
set_option maxRecDepth 100000 in
theorem impl_Colouring_goesWith_c1_ac (p0 : Int) (p1 : Col) (p2 : Int) (p3 : Int) (r : Bool) (h : impl_Colouring_goesWith_c1 p0 p1 p2 p3 = some r) : AC Try.prog 115 [iV p0, .d (.pv ([.pv (colD p1) 0]) 0), .d (.pv ([iD p2]) 0), .d (.pv ([iD p3]) 0)] [] (fun res H' => res = [bV r] ∧ H' = []) := by
 refine AC_of_body true Try.func115 rfl Try.ntmps115 (rvs := [.tmp 5]) rfl rfl (fun G hG => ?_)
 have hm : G.H.length = 0 := by rw [hG]; rfl
 have hz : zeroG G.H = true := by rw [hG]; rfl
 unfold impl_Colouring_goesWith_c1 at h
 refine kR ?_
 refine kN 1 rfl ?_
 refine kR ?_
 refine AOps_q 6 _ rfl rfl rfl (QOp_load_pv _ _ _ _ _ rfl Try.isAgg73 rfl rfl) ?_
 refine kM 1 rfl ?_
 refine AOps_q 8 _ rfl rfl rfl (QOp_load_pv _ _ _ _ _ rfl Try.isAgg2 rfl rfl) ?_
 refine AOps_q 9 _ rfl rfl rfl (QOp_load_pv _ _ _ _ _ rfl Try.isAgg2 rfl rfl) ?_
 obtain ⟨r1, hr1, h⟩ := bindO h
 refine kC [] 10 (bV r1) [] rfl Try.call77 rfl rfl (impl_Colouring_joins_ac p1 p0 p2 p3 _ hr1) rfl ?_
 refine AOps_q 11 _ rfl rfl rfl (QOp_not _ _ _ rfl rfl) ?_
 refine kN 1 rfl ?_
 refine ACode_ret ?_
 cases h
 exact ⟨_, _, fun r a w h => ⟨r, h⟩, _, _, [], _, (.cons (ResV_tmp _ _ rfl) .nil), rfl, rfl, rfl, rfl, rfl⟩

-- (*loop.example/g01362/impl.Colouring).goesWith
def impl_Colouring_goesWith (k : Nat) (p0 : Col) (p1 : Int) (p2 : List Int) (p3 : Int) : Option (Bool) :=
 (slices_ContainsFunc k p2 (fun a0 => impl_Colouring_goesWith_c1 a0 p0 p3 p1)).bind fun r1 => some (!r1)
set_option maxRecDepth 100000 in
theorem impl_Colouring_goesWith_ac (k : Nat) (p0 : Col) (p1 : Int) (p2 : List Int) (p3 : Int) (r : Bool) (h : impl_Colouring_goesWith k p0 p1 p2 p3 = some r) : AC Try.prog 97 [.d (.pv (colD p0) 0), iV p1, .d (.sl none (intsD p2)), iV p3] [] (fun res H' => res = [bV r] ∧ H' = []) := by
 refine AC_of_body true Try.func97 rfl Try.ntmps97 (rvs := [.tmp 8]) rfl rfl (fun G hG => ?_)
 have hm : G.H.length = 0 := by rw [hG]; rfl
 have hz : zeroG G.H = true := by rw [hG]; rfl
 unfold impl_Colouring_goesWith at h
 refine kR ?_
 refine AOps_boxI 4 _ _ (.pv (colD p0) 0) _ rfl (fun c hc => by cases hc with | head => rfl | tail _ h => cases h) rfl rfl rfl rfl rfl ?_
 refine AOps_boxI 5 _ _ (iD p1) _ rfl (fun c hc => by cases hc with | head => rfl | tail _ h => cases h) rfl rfl rfl rfl rfl ?_
 refine AOps_boxI 7 _ _ (iD p3) _ rfl (fun c hc => by cases hc with | head => rfl | tail _ h => cases h) rfl rfl rfl rfl rfl ?_
 refine kN 1 rfl ?_
 refine kR ?_
 refine kM 1 rfl ?_
 refine AOps_q 10 _ rfl rfl rfl (QOp_makeFuncD _ _ _ _ rfl rfl rfl) ?_
 obtain ⟨r1, hr1, h⟩ := bindO h
 refine kC [] 11 (bV r1) [] rfl Try.call56 rfl rfl (slices_ContainsFunc_ac k p2 (fun a0 => impl_Colouring_goesWith_c1 a0 p0 p3 p1) 115 ([.pv ([.pv (colD p0) 0]) 0, .pv ([iD p3]) 0, .pv ([iD p1]) 0]) Try.call115 (fun a0 r h => impl_Colouring_goesWith_c1_ac a0 p0 p3 p1 r h) _ hr1) rfl ?_
 refine AOps_q 12 _ rfl rfl rfl (QOp_not _ _ _ rfl rfl) ?_
 refine kN 1 rfl ?_
 refine ACode_ret ?_
 cases h
 exact ⟨_, _, fun r a w h => ⟨r, h⟩, _, _, [], _, (.cons (ResV_tmp _ _ rfl) .nil), rfl, rfl, rfl, rfl, rfl⟩

-- (*loop.example/g01362/impl.Colouring).cliques
def impl_Colouring_cliques_on_greatest_c1_l0 (k : Nat) (self : Col → Int → (List Int) → (List Int) → Option (Bool × List Int)) (p0 : Col) (p1 : Int) (p2 : List Int) : Nat → Int → (List Int) → Option (Sum (List Int) (Bool × List Int))
 | 0, _, _ => none
 | k0 + 1, x6, x7 => (if decide (x6 < p0.p) then (((impl_Colouring_goesWith k p0 p1 p2 x6).bind fun r9 => (if r9 then (if p2.isEmpty then (if ([x6]).length ≤ 1099511627776 ∧ ([x6]).length ≠ 0 then (self p0 p1 ([x6]) x7).bind fun r14 => some (!r14.1, r14.2) else none) else (cloneA p2).bind fun r15 => (if r15.length + ([x6]).length ≤ 1099511627776 then (self p0 p1 (r15 ++ ([x6])) x7).bind fun r17 => some (!r17.1, r17.2) else none)) else some (false, x7)) : Option (Bool × List Int)).bind fun s18 => (if s18.1 then (some (.inr (false, s18.2))).bind fun rr => some (.inr rr) else some (.inl s18.2)) : Option (Sum (List Int) (Sum (List Int) (Bool × List Int)))).bind fun os20 => (match os20 with | .inl s20 => impl_Colouring_cliques_on_greatest_c1_l0 k self p0 p1 p2 k0 (w64 (x6 + 1)) s20 | .inr rr => some rr) else some (.inl x7))
def impl_Colouring_cliques_on_greatest_c1_body (self : Col → Int → (List Int) → (List Int) → Option (Bool × List Int)) (k : Nat) (p0 : Col) (p1 : Int) (p2 : List Int) (p3_0 : List Int) : Option (Bool × List Int) :=
 (if !((impl_Colouring_greatest_c1 p2 p3_0).1) then some (false, (impl_Colouring_greatest_c1 p2 p3_0).2) else ((if decide (0 < (p2.length : Int)) then (if 0 ≤ w64 ((p2.length : Int) - 1) ∧ w64 ((p2.length : Int) - 1) < (p2.length : Int) then some (w64 ((p2.getD (w64 ((p2.length : Int) - 1)).toNat 0) + 1)) else none) else some 0) : Option (Int)).bind fun s5 => (impl_Colouring_cliques_on_greatest_c1_l0 k self p0 p1 p2 k s5 ((impl_Colouring_greatest_c1 p2 p3_0).2) : Option (Sum (List Int) (Bool × List Int))).bind fun os21 => (match os21 with | .inl s21 => some (true, s21) | .inr rr => some rr))
def impl_Colouring_cliques_on_greatest_c1 : Nat → Col → Int → (List Int) → (List Int) → Option (Bool × List Int)
 | 0, _, _, _, _ => none
 | k + 1, p0, p1, p2, p3_0 => impl_Colouring_cliques_on_greatest_c1_body (impl_Colouring_cliques_on_greatest_c1 k) k p0 p1 p2 p3_0
set_option maxRecDepth 100000 in
theorem impl_Colouring_cliques_on_greatest_c1_ac (k : Nat) (p0 : Col) (p1 : Int) (p2 : List Int) (p3_0 : List Int) (r : Bool × List Int) (h : impl_Colouring_cliques_on_greatest_c1 k p0 p1 p2 p3_0 = some r) : AC Try.prog 83 [.d (.pv (colD p0) 0), iV p1, .d (.sl none (intsD p2)), .clo 84 [.ptr 0 0]] [.box [.sl none (intsD p3_0)]] (fun res H' => res = [bV r.1] ∧ H' = [.box [.sl none (intsD r.2)]]) := by
 induction k generalizing p0 p1 p2 p3_0 r with
 | zero => simp [impl_Colouring_cliques_on_greatest_c1] at h
 | succ k ih =>
  rw [impl_Colouring_cliques_on_greatest_c1] at h
  obtain ⟨self, hself, hk⟩ : ∃ self : Col → Int → (List Int) → (List Int) → Option (Bool × List Int), (∀ (p0 : Col) (p1 : Int) (p2 : List Int) (p3_0 : List Int) (r : Bool × List Int), self p0 p1 p2 p3_0 = some r → AC Try.prog 83 [.d (.pv (colD p0) 0), iV p1, .d (.sl none (intsD p2)), .clo 84 [.ptr 0 0]] [.box [.sl none (intsD p3_0)]] (fun res H' => res = [bV r.1] ∧ H' = [.box [.sl none (intsD r.2)]])) ∧ impl_Colouring_cliques_on_greatest_c1 k = self := ⟨impl_Colouring_cliques_on_greatest_c1 k, fun p0 p1 p2 p3_0 r h => ih p0 p1 p2 p3_0 r h, rfl⟩
  rw [hk] at h
  clear ih hk
  refine AC_of_body true Try.func83 rfl Try.ntmps83 (rvs := [.tmp 8]) rfl rfl (fun G hG => ?_)
  have hm : G.H.length = 1 := by rw [hG]; rfl
  have hz : zeroG G.H = true := by rw [hG]; rfl
  unfold impl_Colouring_cliques_on_greatest_c1_body at h
  refine kR ?_
  refine kN 1 rfl ?_
  refine ACode_seq ?_
  refine kR ?_
  refine kM 2 rfl ?_
  refine kC [0] 13 (bV ((impl_Colouring_greatest_c1 p2 p3_0).1)) [.box [.sl none (intsD ((impl_Colouring_greatest_c1 p2 p3_0).2))]] rfl Try.call84 rfl rfl (impl_Colouring_greatest_c1_ac p2 p3_0) rfl ?_
  refine AOps_q 14 _ rfl rfl rfl (QOp_not _ _ _ rfl rfl) ?_
  refine AOps_nil ?_
  refine kI h rfl (fun h _ => ?_) (fun h _ => ?_)
  ·refine kR ?_
   refine kN 1 rfl ?_
   refine ACode_ret ?_
   cases h
   exact ⟨_, _, fun r a w h => ⟨r, h⟩, _, _, [], _, (.cons (ResV_tmp _ _ rfl) .nil), rfl, rfl, rfl, rfl, rfl⟩
  refine ACode_skip ?_
  refine kR ?_
  refine kN 1 rfl ?_
  refine kB (fun s5 => [(0, .d (.pv (colD p0) 0)), (1, iV p1), (2, .d (.sl none (intsD p2))), (3, .clo 84 [.ptr 0 0]), (9, iV s5)]) (fun s5 => [.box [.sl none (intsD ((impl_Colouring_greatest_c1 p2 p3_0).2))]]) h (fun s5 h => ?_) (fun s5 h => ?_)
  ·refine kR ?_
   refine kM 1 rfl ?_
   refine AOps_q 16 _ rfl rfl rfl (QOp_len_sl _ _ _ _ _ _ _ (intsD_length _) rfl rfl rfl rfl Try.underlying25 rfl) ?_
   refine AOps_q 17 _ rfl rfl rfl (QOp_gtr _ _ _ _ _ _ _ rfl rfl rfl) ?_
   refine AOps_nil ?_
   refine kI h rfl (fun h _ => ?_) (fun h _ => ?_)
   ·refine (ACode_region ?_)
    refine kM 2 rfl ?_
    refine AOps_q 20 _ rfl rfl rfl (QOp_len_sl _ _ _ _ _ _ _ (intsD_length _) rfl rfl rfl rfl Try.underlying25 rfl) ?_
    refine AOps_q 21 _ rfl rfl rfl (QOp_sub _ _ _ _ _ _ _ rfl rfl rfl) ?_
    obtain ⟨hc4, h⟩ := guardO h
    refine AOps_q 22 _ rfl rfl rfl (QOp_indexAddr_sl _ _ _ _ _ _ _ _ rfl Try.underlying25 Try.sizeOf2 hc4.1 (by rw [intsD_length]; exact hc4.2) rfl rfl) ?_
    refine AOps_q 23 _ rfl rfl rfl (QOp_load_pv _ _ _ _ _ rfl Try.isAgg2 rfl (intsD_get _ _ 0 (by omega))) ?_
    refine AOps_q 24 _ rfl rfl rfl (QOp_add _ _ _ _ _ _ _ rfl rfl rfl) ?_
    refine kN 1 rfl ?_
    cases h
    exact Weak_keep 1 hm [0, 1, 2, 3, 9] [] _ _ rfl rfl rfl
   refine ACode_skip ?_
   cases h
   exact Weak_keep 1 hm [0, 1, 2, 3, 9] [] _ _ rfl rfl rfl
  refine kO (fun s21 => []) (fun s21 => [.box [.sl none (intsD s21)]]) h (fun os21 h hks21 => ?_) (fun s21 h => ?_)
  ·refine kR ?_
   refine kN 2 rfl ?_
   refine ACode_block ?_
   refine ACode_loopW (fun k0 E H => ∃ (x6 : Int) (x7 : List Int), E = [(0, .d (.pv (colD p0) 0)), (1, iV p1), (2, .d (.sl none (intsD p2))), (3, .clo 84 [.ptr 0 0]), (10, iV x6)] ∧ H = [.box [.sl none (intsD x7)]] ∧ impl_Colouring_cliques_on_greatest_c1_l0 k self p0 p1 p2 k0 x6 x7 = some os21) k _ _ (Weak_keep 1 hm [0, 1, 2, 3, 10] [] _ _ rfl rfl rfl) ⟨_, _, rfl, rfl, h⟩ ?_
   clear h
   rintro k0 E H ⟨x6, x7, rfl, rfl, h⟩
   cases k0 with
   | zero => cases (show (none : Option (Sum (List Int) (Bool × List Int))) = some _ from h)
   | succ k0 =>
    rw [impl_Colouring_cliques_on_greatest_c1_l0] at h
    refine ACode_seq ?_
    refine kR ?_
    refine kM 2 rfl ?_
    refine AOps_q 28 _ rfl rfl rfl (QOp_nilCheck_pv _ _ _ rfl rfl) ?_
    refine AOps_q 29 _ rfl rfl rfl (QOp_fieldAddr_pv _ _ _ _ _ 0 _ _ rfl Try.underlying29 rfl _ Try.sizeOf2 rfl rfl) ?_
    refine AOps_q 30 _ rfl rfl rfl (QOp_load_pv _ _ _ _ _ rfl Try.isAgg2 rfl rfl) ?_
    refine AOps_q 31 _ rfl rfl rfl (QOp_lss _ _ _ _ _ _ _ rfl rfl rfl) ?_
    refine AOps_nil ?_
    refine kI h rfl (fun h _ => ?_) (fun h _ => ?_)
    ·refine ACode_skip ?_
     refine kO (fun s20 => [(0, .d (.pv (colD p0) 0)), (1, iV p1), (2, .d (.sl none (intsD p2))), (3, .clo 84 [.ptr 0 0]), (10, iV x6)]) (fun s20 => [.box [.sl none (intsD s20)]]) h (fun os20 h hks20 => ?_) (fun s20 h => ?_)
     ·refine ACode_block ?_
      refine kB (fun s18 => [(0, .d (.pv (colD p0) 0)), (1, iV p1), (2, .d (.sl none (intsD p2))), (3, .clo 84 [.ptr 0 0]), (10, iV x6), (50, bV s18.1)]) (fun s18 => [.box [.sl none (intsD s18.2)]]) h (fun s18 h => ?_) (fun s18 h => ?_)
      ·refine (ACode_region ?_)
       refine kM 4 rfl ?_
       obtain ⟨r9, hr9, h⟩ := bindO h
       refine kC [] 38 (bV r9) [.box [.sl none (intsD x7)]] rfl Try.call97 rfl rfl (impl_Colouring_goesWith_ac k p0 p1 p2 x6 _ hr9) rfl ?_
       refine kM 1 rfl ?_
       refine AOps_case 39 _ rfl (fun hb10 => ?_) (fun hb10 => ?_)
       ·have h := iteT hb10 h
        refine kM 3 rfl ?_
        refine bsplit (p2.isEmpty) (fun hb11 => ?_) (fun hb11 => ?_)
        ·have h := iteT hb11 h
         refine kC [] 43 (.d (.se none)) [.box [.sl none (intsD x7)]] rfl Try.call32 rfl rfl (cloneB_ac p2 hb11) rfl ?_
         refine kM 1 rfl ?_
         refine AOps_buildSlice 45 _ _ _ [_] (intsD ([x6])) _ rfl rfl rfl rfl rfl (by decide) Try.underlying25 Try.sizeOf2 (zero_of Try.typeInfo2 rfl) rfl rfl (intsD_one _) ?_
         obtain ⟨hc13, h⟩ := guardO h
         refine AOps_append0 46 _ _ _ _ _ _ _ _ _ _ rfl rfl rfl rfl rfl rfl rfl Try.underlying25 Try.type2 rfl rfl rfl (by decide) rfl rfl rfl (intsD_one _) (by rw [intsD_length]; exact hc13.1) (by rw [intsD_length]; exact hc13.2) ?_
         refine kM 1 rfl ?_
         refine AOps_freezeL [46] 2 0 _ (allc (rfl) (fun _ h => nomatch h)) rfl ?_
         obtain ⟨r14, hr14, h⟩ := bindO h
         refine kC [0] 48 (bV r14.1) [.box [.sl none (intsD r14.2)], .vec 0 (intsD ([x6])), .gone] rfl Try.call83 rfl rfl (hself p0 p1 ([x6]) x7 _ hr14) rfl ?_
         refine AOps_q 49 _ rfl rfl rfl (QOp_not _ _ _ rfl rfl) ?_
         refine kN 1 rfl ?_
         cases h
         exact Weak_keep 1 hm [0, 1, 2, 3, 10, 50] [] _ _ rfl rfl rfl
        have h := iteF hb11 h
        obtain ⟨r15, hr15, h⟩ := bindO h
        refine kC [] 43 (.vec 1 0) [.box [.sl none (intsD x7)], .vec 0 (intsD r15)] rfl Try.call32 rfl rfl (cloneA_ac p2 _ hb11 hr15) rfl ?_
        refine kM 1 rfl ?_
        refine AOps_buildSlice 45 _ _ _ [_] (intsD ([x6])) _ rfl rfl rfl rfl rfl (by decide) Try.underlying25 Try.sizeOf2 (zero_of Try.typeInfo2 rfl) rfl rfl (intsD_one _) ?_
        obtain ⟨hc16, h⟩ := guardO h
        refine AOps_append 46 _ _ _ _ _ _ _ _ _ _ _ _ rfl rfl rfl rfl rfl rfl rfl Try.underlying25 Try.type2 rfl rfl rfl (by decide) rfl rfl rfl rfl (intsD_one _) (by rw [intsD_length, intsD_length]; exact hc16) ?_
        rw [intsD_app]
        refine kM 1 rfl ?_
        refine AOps_freezeL [46] 1 1 _ (allc (rfl) (fun _ h => nomatch h)) rfl ?_
        obtain ⟨r17, hr17, h⟩ := bindO h
        refine kC [0] 48 (bV r17.1) [.box [.sl none (intsD r17.2)], .gone, .vec 0 (intsD ([x6]))] rfl Try.call83 rfl rfl (hself p0 p1 (r15 ++ ([x6])) x7 _ hr17) rfl ?_
        refine AOps_q 49 _ rfl rfl rfl (QOp_not _ _ _ rfl rfl) ?_
        refine kN 1 rfl ?_
        cases h
        exact Weak_keep 1 hm [0, 1, 2, 3, 10, 50] [] _ _ rfl rfl rfl
       have h := iteF hb10 h
       refine AOps_skip 40 rfl rfl rfl ?_
       refine AOps_skip 41 rfl rfl rfl ?_
       refine AOps_skip 42 rfl rfl rfl ?_
       refine AOps_skip 43 rfl rfl rfl ?_
       refine AOps_skip 44 rfl rfl rfl ?_
       refine AOps_skip 45 rfl rfl rfl ?_
       refine AOps_skip 46 rfl rfl rfl ?_
       refine AOps_skip 47 rfl rfl rfl ?_
       refine AOps_skip 48 rfl rfl rfl ?_
       refine AOps_skip 49 rfl rfl rfl ?_
       refine kN 1 rfl ?_
       cases h
       exact Weak_keep 1 hm [0, 1, 2, 3, 10, 50] [] _ _ rfl rfl rfl
      refine kI h rfl (fun h _ => ?_) (fun h _ => ?_)
      ·refine kR ?_
       refine kN 1 rfl ?_
       refine ACode_ret ?_
       obtain ⟨rr, hz22, h2⟩ := bindO h
       obtain rfl := Option.some.inj h2
       obtain rfl := Option.some.inj (show some rr = some _ from hks20)
       have h := hz22
       cases h
       have h := hks21
       cases h
       exact ⟨_, _, fun r a w h => ⟨r, h⟩, _, _, [], _, (.cons (ResV_tmp _ _ rfl) .nil), rfl, rfl, rfl, rfl, rfl⟩
      refine ACode_skip ?_
      cases h
      exact ⟨_, rfl, Weak_keep 1 hm [0, 1, 2, 3, 10] [] _ _ rfl rfl rfl⟩
     refine (ACode_region ?_)
     refine kM 1 rfl ?_
     refine AOps_q 33 _ rfl rfl rfl (QOp_add _ _ _ _ _ _ _ rfl rfl rfl) ?_
     refine kN 1 rfl ?_
     exact ⟨k0, _, _, Nat.lt_succ_self _, Weak_keep 1 hm [0, 1, 2, 3, 10] [] _ _ rfl rfl rfl, _, _, rfl, rfl, h⟩
    refine ACode_exit ?_
    cases h
    exact ⟨_, rfl, Weak_keep 1 hm [] [] _ _ rfl rfl rfl⟩
  refine kR ?_
  refine kN 1 rfl ?_
  refine ACode_ret ?_
  cases h
  exact ⟨_, _, fun r a w h => ⟨r, h⟩, _, _, [], _, (.cons (ResV_tmp _ _ rfl) .nil), rfl, rfl, rfl, rfl, rfl⟩

-- (*loop.example/g01362/impl.Colouring).greatest
def impl_Colouring_greatest (k : Nat) (p0 : Col) (p1 : Int) : Option (List Int) :=
 (impl_Colouring_cliques_on_greatest_c1 k p0 p1 ([]) ([] : List Int)).bind fun r1 => some r1.2
set_option maxRecDepth 100000 in
theorem impl_Colouring_greatest_ac (k : Nat) (p0 : Col) (p1 : Int) (r : List Int) (h : impl_Colouring_greatest k p0 p1 = some r) : AC Try.prog 62 [.d (.pv (colD p0) 0), iV p1] [] (fun res H' => res = [.d (.sl none (intsD r))] ∧ H' = []) := by
 refine AC_of_body true Try.func62 rfl Try.ntmps62 (rvs := [.tmp 4]) rfl rfl (fun G hG => ?_)
 have hm : G.H.length = 0 := by rw [hG]; rfl
 have hz : zeroG G.H = true := by rw [hG]; rfl
 unfold impl_Colouring_greatest at h
 refine kR ?_
 refine kN 1 rfl ?_
 refine kR ?_
 refine AOps_buildSlice 6 _ _ _ [] (intsD ([] : List Int)) _ rfl rfl rfl rfl rfl (by decide) Try.underlying25 Try.sizeOf2 (zero_of Try.typeInfo2 rfl) rfl rfl (intsD_one _) ?_
 refine AOps_alloc 5 _ _ ([.sl (some true) []]) (zero_of Try.typeInfo25 rfl) (by rfl) rfl rfl rfl rfl ?_
 refine AOps_freeze 6 0 0 _ rfl rfl ?_
 refine AOps_store1 _ _ _ _ _ _ _ _ rfl rfl rfl rfl rfl rfl rfl Try.sizeOf25 (Nat.le_of_ble_eq_true rfl) rfl ?_
 refine AOps_nil ?_
 refine kR ?_
 refine kM 2 rfl ?_
 refine AOps_q 9 _ rfl rfl rfl (QOp_makeFunc _ _ _ rfl rfl) ?_
 obtain ⟨r1, hr1, h⟩ := bindO h
 refine kC [1] 10 (bV r1.1) [.gone, .box [.sl none (intsD r1.2)]] rfl Try.call83 rfl rfl (impl_Colouring_cliques_on_greatest_c1_ac k p0 p1 ([]) ([] : List Int) _ hr1) rfl ?_
 refine AOps_nil ?_
 refine kR ?_
 refine AOps_q 11 _ rfl rfl rfl (QOp_load_ptr _ _ _ _ _ _ rfl Try.isAgg25 rfl rfl rfl) ?_
 refine kN 1 rfl ?_
 refine ACode_ret ?_
 cases h
 exact ⟨_, _, fun r a w h => ⟨r, h⟩, _, _, [], _, (.cons (ResV_tmp _ _ rfl) .nil), rfl, rfl, rfl, rfl, rfl⟩

-- (*loop.example/g01362/impl.Colouring).cliqueNumbers
def impl_Colouring_cliqueNumbers_l0 (k : Nat) (p0 : Col) : Nat → Int → (List Int) → Option (List Int)
 | 0, _, _ => none
 | k0 + 1, x1, x2 => (if decide (x1 < p0.k) then (impl_Colouring_greatest k p0 x1).bind fun r4 => (if x2.length + ([(impl_size r4)]).length ≤ 1099511627776 then impl_Colouring_cliqueNumbers_l0 k p0 k0 (w64 (x1 + 1)) (x2 ++ ([(impl_size r4)])) else none) else some x2)
def impl_Colouring_cliqueNumbers (k : Nat) (p0 : Col) : Option (List Int) :=
 (impl_Colouring_cliqueNumbers_l0 k p0 k 0 ([] : List Int) : Option (List Int)).bind fun s7 => some s7
set_option maxRecDepth 100000 in
theorem impl_Colouring_cliqueNumbers_ac (k : Nat) (p0 : Col) (r : List Int) (h : impl_Colouring_cliqueNumbers k p0 = some r) : AC Try.prog 43 [.d (.pv (colD p0) 0)] [] (fun res H' => res = [.vec 0 0] ∧ H' = [.vec 0 (intsD r)]) := by
 refine AC_of_body true Try.func43 rfl Try.ntmps43 (rvs := [.tmp 2]) rfl rfl (fun G hG => ?_)
 have hm : G.H.length = 0 := by rw [hG]; rfl
 have hz : zeroG G.H = true := by rw [hG]; rfl
 unfold impl_Colouring_cliqueNumbers at h
 refine kR ?_
 refine kN 1 rfl ?_
 refine kR ?_
 refine AOps_buildSlice 5 _ _ _ [] (intsD ([] : List Int)) _ rfl rfl rfl rfl rfl (by decide) Try.underlying25 Try.sizeOf2 (zero_of Try.typeInfo2 rfl) rfl rfl (intsD_one _) ?_
 refine kN 1 rfl ?_
 refine kB (fun s7 => [(3, .vec 0 0)]) (fun s7 => [.vec 0 (intsD s7)]) h (fun s7 h => ?_) (fun s7 h => ?_)
 ·refine kR ?_
  refine kM 1 rfl ?_
  refine AOps_q 7 _ rfl rfl rfl (QOp_nilCheck_pv _ _ _ rfl rfl) ?_
  refine AOps_q 8 _ rfl rfl rfl (QOp_fieldAddr_pv _ _ _ _ _ 1 _ _ rfl Try.underlying29 rfl _ Try.sizeOf2 rfl rfl) ?_
  refine AOps_q 9 _ rfl rfl rfl (QOp_load_pv _ _ _ _ _ rfl Try.isAgg2 rfl rfl) ?_
  refine kN 1 rfl ?_
  refine ACode_block ?_
  refine ACode_loopW (fun k0 E H => ∃ (x1 : Int) (x2 : List Int), E = [(0, .d (.pv (colD p0) 0)), (3, .vec 0 0), (9, iV p0.k), (10, iV x1)] ∧ H = [.vec 0 (intsD x2)] ∧ impl_Colouring_cliqueNumbers_l0 k p0 k0 x1 x2 = some s7) k _ _ (Weak_keep 0 hm [0, 3, 9, 10] [0] _ _ rfl rfl rfl) ⟨_, _, rfl, rfl, h⟩ ?_
  clear h
  rintro k0 E H ⟨x1, x2, rfl, rfl, h⟩
  cases k0 with
  | zero => cases (show (none : Option (List Int)) = some _ from h)
  | succ k0 =>
   rw [impl_Colouring_cliqueNumbers_l0] at h
   refine kR ?_
   refine AOps_q 11 _ rfl rfl rfl (QOp_lss _ _ _ _ _ _ _ rfl rfl rfl) ?_
   refine AOps_nil ?_
   refine ACode_seq ?_
   refine kI h rfl (fun h _ => ?_) (fun h _ => ?_)
   ·refine ACode_skip ?_
    refine ACode_seq ?_
    refine ACode_block ?_
    refine kR ?_
    refine kN 2 rfl ?_
    refine (ACode_region ?_)
    refine kM 3 rfl ?_
    obtain ⟨r4, hr4, h⟩ := bindO h
    refine kC [] 16 (.d (.sl none (intsD r4))) [.vec 0 (intsD x2)] rfl Try.call62 rfl rfl (impl_Colouring_greatest_ac k p0 x1 _ hr4) rfl ?_
    refine kC [] 17 (iV (impl_size r4)) [.vec 0 (intsD x2)] rfl Try.call55 rfl rfl (impl_size_ac r4) rfl ?_
    refine AOps_buildSlice 18 _ _ _ [_] (intsD ([(impl_size r4)])) _ rfl rfl rfl rfl rfl (by decide) Try.underlying25 Try.sizeOf2 (zero_of Try.typeInfo2 rfl) rfl rfl (intsD_one _) ?_
    obtain ⟨hc6, h⟩ := guardO h
    refine AOps_append 19 _ _ _ _ _ _ _ _ _ _ _ _ rfl rfl rfl rfl rfl rfl rfl Try.underlying25 Try.type2 rfl rfl rfl (by decide) rfl rfl rfl rfl (intsD_one _) (by rw [intsD_length, intsD_length]; exact hc6) ?_
    rw [intsD_app]
    refine kN 1 rfl ?_
    refine (ACode_region ?_)
    refine AOps_q 20 _ rfl rfl rfl (QOp_add _ _ _ _ _ _ _ rfl rfl rfl) ?_
    refine kN 1 rfl ?_
    exact ⟨k0, _, _, Nat.lt_succ_self _, Weak_trans (Weak_keep 0 hm [0, 3, 9, 10] [0] _ _ rfl rfl rfl) (Weak_reset 0 hm hz [0, 3, 9, 10] _ _ rfl rfl), _, _, rfl, rfl, h⟩
   refine ACode_exit ?_
   cases h
   exact Weak_keep 0 hm [3] [0] _ _ rfl rfl rfl
 refine kR ?_
 refine kN 2 rfl ?_
 refine ACode_ret ?_
 cases h
 exact ⟨_, _, Weak_reset 0 hm hz [2] _ _ rfl rfl, _, _, [0], _, (.cons (ResV_tmp _ _ rfl) .nil), rfl, rfl, rfl, rfl, rfl⟩

-- loop.example/g01362/impl.CliqueNumbers
def impl_CliqueNumbers (k : Nat) (p0 : Col) : Option (Option (List Int) × Int) :=
 (impl_Colouring_code k p0 (some (impl_always))).bind fun r1 => (if !decide (r1 = 0) then some (none, r1) else (impl_Colouring_cliqueNumbers k p0).bind fun r3 => some (some r3, 0))
set_option maxRecDepth 100000 in
theorem impl_CliqueNumbers_ac (k : Nat) (p0 : Col) (r : Option (List Int) × Int) (h : impl_CliqueNumbers k p0 = some r) : AC Try.prog 19 [.d (.agg (colD p0))] [] (fun res H' => res = [ownA 0 (r.1.map intsD), iV r.2] ∧ H' = [] ++ ownH (r.1.map intsD)) := by
 refine AC_of_body false Try.func19 rfl Try.ntmps19 (rvs := [.tmp 2, .tmp 3]) rfl rfl (fun G hG => ?_)
 have hm : G.H.length = 0 := by rw [hG]; rfl
 have hz : zeroG G.H = true := by rw [hG]; rfl
 unfold impl_CliqueNumbers at h
 refine kR ?_
 refine AOps_boxI 1 _ _ (.agg (colD p0)) (colD p0) rfl (colD_one _) rfl rfl rfl rfl rfl ?_
 refine kN 2 rfl ?_
 refine ACode_seq ?_
 refine kR ?_
 obtain ⟨r1, hr1, h⟩ := bindO h
 refine kC [] 5 (iV r1) [] rfl Try.call39 rfl rfl (impl_Colouring_code_ac k p0 (some (impl_always)) 29 ([]) Try.call29 (fun r h => by cases h; exact impl_always_ac) _ hr1) rfl ?_
 refine kN 1 rfl ?_
 refine kR ?_
 refine kM 1 rfl ?_
 refine AOps_q 7 _ rfl rfl rfl (QOp_neq _ _ _ _ _ _ _ rfl rfl rfl) ?_
 refine AOps_nil ?_
 refine kI h rfl (fun h _ => ?_) (fun h _ => ?_)
 ·refine kR ?_
  refine kN 3 rfl ?_
  refine ACode_ret ?_
  cases h
  exact ⟨_, _, fun r a w h => ⟨r, h⟩, _, _, [], _, (.cons (ResV_tmp _ _ rfl) (.cons (ResV_tmp _ _ rfl) .nil)), rfl, rfl, rfl, rfl, rfl⟩
 refine ACode_skip ?_
 refine kR ?_
 obtain ⟨r3, hr3, h⟩ := bindO h
 refine kC [] 9 (.vec 0 0) [.vec 0 (intsD r3)] rfl Try.call43 rfl rfl (impl_Colouring_cliqueNumbers_ac k p0 _ hr3) rfl ?_
 refine kN 2 rfl ?_
 refine ACode_ret ?_
 cases h
 exact ⟨_, _, Weak_reset 0 hm hz [2, 3] _ _ rfl rfl, _, _, [0], _, (.cons (ResV_tmp _ _ rfl) (.cons (ResV_tmp _ _ rfl) .nil)), rfl, rfl, rfl, rfl, rfl⟩

-- (*loop.example/g01362/impl.Colouring).countThat$1
def impl_Colouring_countThat_c1 (p0 : List Int) (p1 : Int) (p2 : (List Int) → Option (Bool)) (p3 : Int) : Option (Bool × Int) :=
 (((if decide ((impl_size p0) = p1) then (p2 p0).bind fun r3 => some r3 else some false) : Option (Bool)).bind fun s4 => (if s4 then some (w64 (p3 + 1)) else some p3) : Option (Int)).bind fun s6 => some (true, s6)
set_option maxRecDepth 100000 in
theorem impl_Colouring_countThat_c1_ac (p0 : List Int) (p1 : Int) (p2 : (List Int) → Option (Bool)) (p3 : Int) (g_p2 : FuncId) (c_p2 : List D) (hg_p2 : ∀ args w, (callFunc g_p2 args).run Try.prog w = .ok (.enter g_p2 args) w) (hf_p2 : ∀ (a0 : List Int) (r : Bool), p2 a0 = some r → AC Try.prog g_p2 ([.d (.sl none (intsD a0))] ++ c_p2.map AV.d) [] (fun res H' => res = [bV r] ∧ H' = [])) (r : Bool × Int) (h : impl_Colouring_countThat_c1 p0 p1 p2 p3 = some r) : AC Try.prog 85 [.d (.sl none (intsD p0)), .d (.pv ([iD p1]) 0), .d (.pv ([.clo g_p2 c_p2]) 0), .ptr 0 0] [.box [iD p3]] (fun res H' => res = [bV r.1] ∧ H' = [.box [iD r.2]]) := by
 refine AC_of_body true Try.func85 rfl Try.ntmps85 (rvs := [.tmp 5]) rfl rfl (fun G hG => ?_)
 have hm : G.H.length = 1 := by rw [hG]; rfl
 have hz : zeroG G.H = true := by rw [hG]; rfl
 unfold impl_Colouring_countThat_c1 at h
 refine kR ?_
 refine kN 1 rfl ?_
 refine kB (fun s6 => []) (fun s6 => [.box [iD s6]]) h (fun s6 h => ?_) (fun s6 h => ?_)
 ·refine kB (fun s4 => [(3, .ptr 0 0), (14, bV s4)]) (fun s4 => [.box [iD p3]]) h (fun s4 h => ?_) (fun s4 h => ?_)
  ·refine (ACode_quiet mixed (by kernel_rfl) ?_)
   refine kQ 1 rfl ?_
   refine AQ_call 7 _ _ _ _ _ _ _ _ _ rfl rfl rfl rfl rfl rfl rfl Try.call55 rfl rfl rfl (impl_size_ac p0) ?_
   refine AQ_q 8 _ rfl rfl rfl (QOp_load_pv _ _ _ _ _ rfl Try.isAgg2 rfl rfl) ?_
   refine AQ_q 9 _ rfl rfl rfl (QOp_eql _ _ _ _ _ _ _ rfl rfl rfl) ?_
   refine kQ 1 rfl ?_
   refine AQ_case 10 _ rfl (fun hb2 => ?_) (fun hb2 => ?_)
   ·have h := iteT hb2 h
    refine AQ_q 11 _ rfl rfl rfl (QOp_load_pv _ _ _ _ _ rfl Try.isAgg59 rfl rfl) ?_
    refine kQ 1 rfl ?_
    obtain ⟨r3, hr3, h⟩ := bindO h
    refine AQ_call 13 _ _ _ _ _ _ _ _ _ rfl rfl rfl rfl rfl rfl rfl hg_p2 rfl rfl (viewA_mapD _) (hf_p2 p0 _ hr3) ?_
    refine kQ 1 rfl ?_
    refine AQ_nil ?_
    cases h
    exact Weak_keep 1 hm [3, 14] [] _ _ rfl rfl rfl
   have h := iteF hb2 h
   refine AQ_skip 11 rfl rfl rfl ?_
   refine AQ_skip 12 rfl rfl rfl ?_
   refine AQ_skip 13 rfl rfl rfl ?_
   refine kQ 1 rfl ?_
   refine AQ_nil ?_
   cases h
   exact Weak_keep 1 hm [3, 14] [] _ _ rfl rfl rfl
  refine kI h rfl (fun h _ => ?_) (fun h _ => ?_)
  ·refine (ACode_region ?_)
   refine AOps_q 15 _ rfl rfl rfl (QOp_load_ptr _ _ _ _ _ _ rfl Try.isAgg2 rfl rfl rfl) ?_
   refine AOps_q 16 _ rfl rfl rfl (QOp_add _ _ _ _ _ _ _ rfl rfl rfl) ?_
   refine AOps_store1 _ _ _ _ _ _ _ _ rfl rfl rfl rfl rfl rfl rfl Try.sizeOf2 (Nat.le_of_ble_eq_true rfl) rfl ?_
   refine AOps_nil ?_
   cases h
   exact Weak_keep 1 hm [] [] _ _ rfl rfl rfl
  refine ACode_skip ?_
  cases h
  exact Weak_keep 1 hm [] [] _ _ rfl rfl rfl
 refine kR ?_
 refine kN 1 rfl ?_
 refine ACode_ret ?_
 cases h
 exact ⟨_, _, fun r a w h => ⟨r, h⟩, _, _, [], _, (.cons (ResV_tmp _ _ rfl) .nil), rfl, rfl, rfl, rfl, rfl⟩

-- (*loop.example/g01362/impl.Colouring).cliques
def impl_Colouring_cliques_on_countThat_c1_l0 (k : Nat) (self : Col → Int → (List Int) → Int → ((List Int) → Option (Bool)) → Int → Option (Bool × Int)) (p0 : Col) (p1 : Int) (p2 : List Int) (p3_0 : Int) (p3_1 : (List Int) → Option (Bool)) : Nat → Int → Int → Option (Sum (Int) (Bool × Int))
 | 0, _, _ => none
 | k0 + 1, x6, x7 => (if decide (x6 < p0.p) then (((impl_Colouring_goesWith k p0 p1 p2 x6).bind fun r9 => (if r9 then (if p2.isEmpty then (if ([x6]).length ≤ 1099511627776 ∧ ([x6]).length ≠ 0 then (self p0 p1 ([x6]) p3_0 p3_1 x7).bind fun r14 => some (!r14.1, r14.2) else none) else (cloneA p2).bind fun r15 => (if r15.length + ([x6]).length ≤ 1099511627776 then (self p0 p1 (r15 ++ ([x6])) p3_0 p3_1 x7).bind fun r17 => some (!r17.1, r17.2) else none)) else some (false, x7)) : Option (Bool × Int)).bind fun s18 => (if s18.1 then (some (.inr (false, s18.2))).bind fun rr => some (.inr rr) else some (.inl s18.2)) : Option (Sum (Int) (Sum (Int) (Bool × Int)))).bind fun os20 => (match os20 with | .inl s20 => impl_Colouring_cliques_on_countThat_c1_l0 k self p0 p1 p2 p3_0 p3_1 k0 (w64 (x6 + 1)) s20 | .inr rr => some rr) else some (.inl x7))
def impl_Colouring_cliques_on_countThat_c1_body (self : Col → Int → (List Int) → Int → ((List Int) → Option (Bool)) → Int → Option (Bool × Int)) (k : Nat) (p0 : Col) (p1 : Int) (p2 : List Int) (p3_0 : Int) (p3_1 : (List Int) → Option (Bool)) (p3_2 : Int) : Option (Bool × Int) :=
 (impl_Colouring_countThat_c1 p2 p3_0 p3_1 p3_2).bind fun r1 => (if !r1.1 then some (false, r1.2) else ((if decide (0 < (p2.length : Int)) then (if 0 ≤ w64 ((p2.length : Int) - 1) ∧ w64 ((p2.length : Int) - 1) < (p2.length : Int) then some (w64 ((p2.getD (w64 ((p2.length : Int) - 1)).toNat 0) + 1)) else none) else some 0) : Option (Int)).bind fun s5 => (impl_Colouring_cliques_on_countThat_c1_l0 k self p0 p1 p2 p3_0 p3_1 k s5 r1.2 : Option (Sum (Int) (Bool × Int))).bind fun os21 => (match os21 with | .inl s21 => some (true, s21) | .inr rr => some rr))
def impl_Colouring_cliques_on_countThat_c1 : Nat → Col → Int → (List Int) → Int → ((List Int) → Option (Bool)) → Int → Option (Bool × Int)
 | 0, _, _, _, _, _, _ => none
 | k + 1, p0, p1, p2, p3_0, p3_1, p3_2 => impl_Colouring_cliques_on_countThat_c1_body (impl_Colouring_cliques_on_countThat_c1 k) k p0 p1 p2 p3_0 p3_1 p3_2
set_option maxRecDepth 100000 in
theorem impl_Colouring_cliques_on_countThat_c1_ac (k : Nat) (p0 : Col) (p1 : Int) (p2 : List Int) (p3_0 : Int) (p3_1 : (List Int) → Option (Bool)) (p3_2 : Int) (g_p3_1 : FuncId) (c_p3_1 : List D) (hg_p3_1 : ∀ args w, (callFunc g_p3_1 args).run Try.prog w = .ok (.enter g_p3_1 args) w) (hf_p3_1 : ∀ (a0 : List Int) (r : Bool), p3_1 a0 = some r → AC Try.prog g_p3_1 ([.d (.sl none (intsD a0))] ++ c_p3_1.map AV.d) [] (fun res H' => res = [bV r] ∧ H' = [])) (r : Bool × Int) (h : impl_Colouring_cliques_on_countThat_c1 k p0 p1 p2 p3_0 p3_1 p3_2 = some r) : AC Try.prog 83 [.d (.pv (colD p0) 0), iV p1, .d (.sl none (intsD p2)), .clo 85 [.d (.pv ([iD p3_0]) 0), .d (.pv ([.clo g_p3_1 c_p3_1]) 0), .ptr 0 0]] [.box [iD p3_2]] (fun res H' => res = [bV r.1] ∧ H' = [.box [iD r.2]]) := by
 induction k generalizing p0 p1 p2 p3_0 p3_2 r with
 | zero => simp [impl_Colouring_cliques_on_countThat_c1] at h
 | succ k ih =>
  rw [impl_Colouring_cliques_on_countThat_c1] at h
  obtain ⟨self, hself, hk⟩ : ∃ self : Col → Int → (List Int) → Int → ((List Int) → Option (Bool)) → Int → Option (Bool × Int), (∀ (p0 : Col) (p1 : Int) (p2 : List Int) (p3_0 : Int) (p3_2 : Int) (r : Bool × Int), self p0 p1 p2 p3_0 p3_1 p3_2 = some r → AC Try.prog 83 [.d (.pv (colD p0) 0), iV p1, .d (.sl none (intsD p2)), .clo 85 [.d (.pv ([iD p3_0]) 0), .d (.pv ([.clo g_p3_1 c_p3_1]) 0), .ptr 0 0]] [.box [iD p3_2]] (fun res H' => res = [bV r.1] ∧ H' = [.box [iD r.2]])) ∧ impl_Colouring_cliques_on_countThat_c1 k = self := ⟨impl_Colouring_cliques_on_countThat_c1 k, fun p0 p1 p2 p3_0 p3_2 r h => ih p0 p1 p2 p3_0 p3_2 r h, rfl⟩
  rw [hk] at h
  clear ih hk
  refine AC_of_body true Try.func83 rfl Try.ntmps83 (rvs := [.tmp 8]) rfl rfl (fun G hG => ?_)
  have hm : G.H.length = 1 := by rw [hG]; rfl
  have hz : zeroG G.H = true := by rw [hG]; rfl
  unfold impl_Colouring_cliques_on_countThat_c1_body at h
  refine kR ?_
  refine kN 1 rfl ?_
  refine ACode_seq ?_
  refine kR ?_
  refine kM 2 rfl ?_
  obtain ⟨r1, hr1, h⟩ := bindO h
  refine kC [0] 13 (bV r1.1) [.box [iD r1.2]] rfl Try.call85 rfl rfl (impl_Colouring_countThat_c1_ac p2 p3_0 p3_1 p3_2 g_p3_1 c_p3_1 hg_p3_1 hf_p3_1 _ hr1) rfl ?_
  refine AOps_q 14 _ rfl rfl rfl (QOp_not _ _ _ rfl rfl) ?_
  refine AOps_nil ?_
  refine kI h rfl (fun h _ => ?_) (fun h _ => ?_)
  ·refine kR ?_
   refine kN 1 rfl ?_
   refine ACode_ret ?_
   cases h
   exact ⟨_, _, fun r a w h => ⟨r, h⟩, _, _, [], _, (.cons (ResV_tmp _ _ rfl) .nil), rfl, rfl, rfl, rfl, rfl⟩
  refine ACode_skip ?_
  refine kR ?_
  refine kN 1 rfl ?_
  refine kB (fun s5 => [(0, .d (.pv (colD p0) 0)), (1, iV p1), (2, .d (.sl none (intsD p2))), (3, .clo 85 [.d (.pv ([iD p3_0]) 0), .d (.pv ([.clo g_p3_1 c_p3_1]) 0), .ptr 0 0]), (9, iV s5)]) (fun s5 => [.box [iD r1.2]]) h (fun s5 h => ?_) (fun s5 h => ?_)
  ·refine kR ?_
   refine kM 1 rfl ?_
   refine AOps_q 16 _ rfl rfl rfl (QOp_len_sl _ _ _ _ _ _ _ (intsD_length _) rfl rfl rfl rfl Try.underlying25 rfl) ?_
   refine AOps_q 17 _ rfl rfl rfl (QOp_gtr _ _ _ _ _ _ _ rfl rfl rfl) ?_
   refine AOps_nil ?_
   refine kI h rfl (fun h _ => ?_) (fun h _ => ?_)
   ·refine (ACode_region ?_)
    refine kM 2 rfl ?_
    refine AOps_q 20 _ rfl rfl rfl (QOp_len_sl _ _ _ _ _ _ _ (intsD_length _) rfl rfl rfl rfl Try.underlying25 rfl) ?_
    refine AOps_q 21 _ rfl rfl rfl (QOp_sub _ _ _ _ _ _ _ rfl rfl rfl) ?_
    obtain ⟨hc4, h⟩ := guardO h
    refine AOps_q 22 _ rfl rfl rfl (QOp_indexAddr_sl _ _ _ _ _ _ _ _ rfl Try.underlying25 Try.sizeOf2 hc4.1 (by rw [intsD_length]; exact hc4.2) rfl rfl) ?_
    refine AOps_q 23 _ rfl rfl rfl (QOp_load_pv _ _ _ _ _ rfl Try.isAgg2 rfl (intsD_get _ _ 0 (by omega))) ?_
    refine AOps_q 24 _ rfl rfl rfl (QOp_add _ _ _ _ _ _ _ rfl rfl rfl) ?_
    refine kN 1 rfl ?_
    cases h
    exact Weak_keep 1 hm [0, 1, 2, 3, 9] [] _ _ rfl rfl rfl
   refine ACode_skip ?_
   cases h
   exact Weak_keep 1 hm [0, 1, 2, 3, 9] [] _ _ rfl rfl rfl
  refine kO (fun s21 => []) (fun s21 => [.box [iD s21]]) h (fun os21 h hks21 => ?_) (fun s21 h => ?_)
  ·refine kR ?_
   refine kN 2 rfl ?_
   refine ACode_block ?_
   refine ACode_loopW (fun k0 E H => ∃ (x6 : Int) (x7 : Int), E = [(0, .d (.pv (colD p0) 0)), (1, iV p1), (2, .d (.sl none (intsD p2))), (3, .clo 85 [.d (.pv ([iD p3_0]) 0), .d (.pv ([.clo g_p3_1 c_p3_1]) 0), .ptr 0 0]), (10, iV x6)] ∧ H = [.box [iD x7]] ∧ impl_Colouring_cliques_on_countThat_c1_l0 k self p0 p1 p2 p3_0 p3_1 k0 x6 x7 = some os21) k _ _ (Weak_keep 1 hm [0, 1, 2, 3, 10] [] _ _ rfl rfl rfl) ⟨_, _, rfl, rfl, h⟩ ?_
   clear h
   rintro k0 E H ⟨x6, x7, rfl, rfl, h⟩
   cases k0 with
   | zero => cases (show (none : Option (Sum (Int) (Bool × Int))) = some _ from h)
   | succ k0 =>
    rw [impl_Colouring_cliques_on_countThat_c1_l0] at h
    refine ACode_seq ?_
    refine kR ?_
    refine kM 2 rfl ?_
    refine AOps_q 28 _ rfl rfl rfl (QOp_nilCheck_pv _ _ _ rfl rfl) ?_
    refine AOps_q 29 _ rfl rfl rfl (QOp_fieldAddr_pv _ _ _ _ _ 0 _ _ rfl Try.underlying29 rfl _ Try.sizeOf2 rfl rfl) ?_
    refine AOps_q 30 _ rfl rfl rfl (QOp_load_pv _ _ _ _ _ rfl Try.isAgg2 rfl rfl) ?_
    refine AOps_q 31 _ rfl rfl rfl (QOp_lss _ _ _ _ _ _ _ rfl rfl rfl) ?_
    refine AOps_nil ?_
    refine kI h rfl (fun h _ => ?_) (fun h _ => ?_)
    ·refine ACode_skip ?_
     refine kO (fun s20 => [(0, .d (.pv (colD p0) 0)), (1, iV p1), (2, .d (.sl none (intsD p2))), (3, .clo 85 [.d (.pv ([iD p3_0]) 0), .d (.pv ([.clo g_p3_1 c_p3_1]) 0), .ptr 0 0]), (10, iV x6)]) (fun s20 => [.box [iD s20]]) h (fun os20 h hks20 => ?_) (fun s20 h => ?_)
     ·refine ACode_block ?_
      refine kB (fun s18 => [(0, .d (.pv (colD p0) 0)), (1, iV p1), (2, .d (.sl none (intsD p2))), (3, .clo 85 [.d (.pv ([iD p3_0]) 0), .d (.pv ([.clo g_p3_1 c_p3_1]) 0), .ptr 0 0]), (10, iV x6), (50, bV s18.1)]) (fun s18 => [.box [iD s18.2]]) h (fun s18 h => ?_) (fun s18 h => ?_)
      ·refine (ACode_region ?_)
       refine kM 4 rfl ?_
       obtain ⟨r9, hr9, h⟩ := bindO h
       refine kC [] 38 (bV r9) [.box [iD x7]] rfl Try.call97 rfl rfl (impl_Colouring_goesWith_ac k p0 p1 p2 x6 _ hr9) rfl ?_
       refine kM 1 rfl ?_
       refine AOps_case 39 _ rfl (fun hb10 => ?_) (fun hb10 => ?_)
       ·have h := iteT hb10 h
        refine kM 3 rfl ?_
        refine bsplit (p2.isEmpty) (fun hb11 => ?_) (fun hb11 => ?_)
        ·have h := iteT hb11 h
         refine kC [] 43 (.d (.se none)) [.box [iD x7]] rfl Try.call32 rfl rfl (cloneB_ac p2 hb11) rfl ?_
         refine kM 1 rfl ?_
         refine AOps_buildSlice 45 _ _ _ [_] (intsD ([x6])) _ rfl rfl rfl rfl rfl (by decide) Try.underlying25 Try.sizeOf2 (zero_of Try.typeInfo2 rfl) rfl rfl (intsD_one _) ?_
         obtain ⟨hc13, h⟩ := guardO h
         refine AOps_append0 46 _ _ _ _ _ _ _ _ _ _ rfl rfl rfl rfl rfl rfl rfl Try.underlying25 Try.type2 rfl rfl rfl (by decide) rfl rfl rfl (intsD_one _) (by rw [intsD_length]; exact hc13.1) (by rw [intsD_length]; exact hc13.2) ?_
         refine kM 1 rfl ?_
         obtain ⟨r14, hr14, h⟩ := bindO h
         refine AOps_callL [0] 48 _ _ _ _ _ _ _ _ _ _ rfl rfl rfl rfl rfl rfl rfl Try.call83 rfl (nodupB_sound _ rfl) rfl rfl rfl (hself p0 p1 ([x6]) p3_0 x7 _ hr14) ?_
         rintro _ _ ⟨rfl, rfl⟩
         refine ⟨(allc ((fun c hc => by cases hc with | head => exact flat_s _ | tail _ h => cases h)) (fun _ h => nomatch h)), (allc (flat_s _) (fun _ h => nomatch h)), AOps_as 48 (v' := bV r14.1) (H' := [.box [iD r14.2], .vec 0 (intsD ([x6])), .vec 0 (intsD ([x6]))]) rfl rfl ?_⟩
         refine AOps_q 49 _ rfl rfl rfl (QOp_not _ _ _ rfl rfl) ?_
         refine kN 1 rfl ?_
         cases h
         exact Weak_keep 1 hm [0, 1, 2, 3, 10, 50] [] _ _ rfl rfl rfl
        have h := iteF hb11 h
        obtain ⟨r15, hr15, h⟩ := bindO h
        refine kC [] 43 (.vec 1 0) [.box [iD x7], .vec 0 (intsD r15)] rfl Try.call32 rfl rfl (cloneA_ac p2 _ hb11 hr15) rfl ?_
        refine kM 1 rfl ?_
        refine AOps_buildSlice 45 _ _ _ [_] (intsD ([x6])) _ rfl rfl rfl rfl rfl (by decide) Try.underlying25 Try.sizeOf2 (zero_of Try.typeInfo2 rfl) rfl rfl (intsD_one _) ?_
        obtain ⟨hc16, h⟩ := guardO h
        refine AOps_append 46 _ _ _ _ _ _ _ _ _ _ _ _ rfl rfl rfl rfl rfl rfl rfl Try.underlying25 Try.type2 rfl rfl rfl (by decide) rfl rfl rfl rfl (intsD_one _) (by rw [intsD_length, intsD_length]; exact hc16) ?_
        rw [intsD_app]
        refine kM 1 rfl ?_
        obtain ⟨r17, hr17, h⟩ := bindO h
        refine AOps_callL [0] 48 _ _ _ _ _ _ _ _ _ _ rfl rfl rfl rfl rfl rfl rfl Try.call83 rfl (nodupB_sound _ rfl) rfl rfl rfl (hself p0 p1 (r15 ++ ([x6])) p3_0 x7 _ hr17) ?_
        rintro _ _ ⟨rfl, rfl⟩
        refine ⟨(allc ((fun c hc => by cases hc with | head => exact flat_s _ | tail _ h => cases h)) (fun _ h => nomatch h)), (allc (flat_s _) (fun _ h => nomatch h)), AOps_as 48 (v' := bV r17.1) (H' := [.box [iD r17.2], .vec 1 (intsD (r15 ++ ([x6]))), .vec 0 (intsD ([x6]))]) rfl rfl ?_⟩
        refine AOps_q 49 _ rfl rfl rfl (QOp_not _ _ _ rfl rfl) ?_
        refine kN 1 rfl ?_
        cases h
        exact Weak_keep 1 hm [0, 1, 2, 3, 10, 50] [] _ _ rfl rfl rfl
       have h := iteF hb10 h
       refine AOps_skip 40 rfl rfl rfl ?_
       refine AOps_skip 41 rfl rfl rfl ?_
       refine AOps_skip 42 rfl rfl rfl ?_
       refine AOps_skip 43 rfl rfl rfl ?_
       refine AOps_skip 44 rfl rfl rfl ?_
       refine AOps_skip 45 rfl rfl rfl ?_
       refine AOps_skip 46 rfl rfl rfl ?_
       refine AOps_skip 47 rfl rfl rfl ?_
       refine AOps_skip 48 rfl rfl rfl ?_
       refine AOps_skip 49 rfl rfl rfl ?_
       refine kN 1 rfl ?_
       cases h
       exact Weak_keep 1 hm [0, 1, 2, 3, 10, 50] [] _ _ rfl rfl rfl
      refine kI h rfl (fun h _ => ?_) (fun h _ => ?_)
      ·refine kR ?_
       refine kN 1 rfl ?_
       refine ACode_ret ?_
       obtain ⟨rr, hz22, h2⟩ := bindO h
       obtain rfl := Option.some.inj h2
       obtain rfl := Option.some.inj (show some rr = some _ from hks20)
       have h := hz22
       cases h
       have h := hks21
       cases h
       exact ⟨_, _, fun r a w h => ⟨r, h⟩, _, _, [], _, (.cons (ResV_tmp _ _ rfl) .nil), rfl, rfl, rfl, rfl, rfl⟩
      refine ACode_skip ?_
      cases h
      exact ⟨_, rfl, Weak_keep 1 hm [0, 1, 2, 3, 10] [] _ _ rfl rfl rfl⟩
     refine (ACode_region ?_)
     refine kM 1 rfl ?_
     refine AOps_q 33 _ rfl rfl rfl (QOp_add _ _ _ _ _ _ _ rfl rfl rfl) ?_
     refine kN 1 rfl ?_
     exact ⟨k0, _, _, Nat.lt_succ_self _, Weak_keep 1 hm [0, 1, 2, 3, 10] [] _ _ rfl rfl rfl, _, _, rfl, rfl, h⟩
    refine ACode_exit ?_
    cases h
    exact ⟨_, rfl, Weak_keep 1 hm [] [] _ _ rfl rfl rfl⟩
  refine kR ?_
  refine kN 1 rfl ?_
  refine ACode_ret ?_
  cases h
  exact ⟨_, _, fun r a w h => ⟨r, h⟩, _, _, [], _, (.cons (ResV_tmp _ _ rfl) .nil), rfl, rfl, rfl, rfl, rfl⟩

-- (*loop.example/g01362/impl.Colouring).countThat
def impl_Colouring_countThat (k : Nat) (p0 : Col) (p1 : Int) (p2 : Int) (p3 : (List Int) → Option (Bool)) : Option (Int) :=
 (impl_Colouring_cliques_on_countThat_c1 k p0 p1 ([]) p2 p3 0).bind fun r1 => some r1.2
set_option maxRecDepth 100000 in
theorem impl_Colouring_countThat_ac (k : Nat) (p0 : Col) (p1 : Int) (p2 : Int) (p3 : (List Int) → Option (Bool)) (g_p3 : FuncId) (c_p3 : List D) (hg_p3 : ∀ args w, (callFunc g_p3 args).run Try.prog w = .ok (.enter g_p3 args) w) (hf_p3 : ∀ (a0 : List Int) (r : Bool), p3 a0 = some r → AC Try.prog g_p3 ([.d (.sl none (intsD a0))] ++ c_p3.map AV.d) [] (fun res H' => res = [bV r] ∧ H' = [])) (r : Int) (h : impl_Colouring_countThat k p0 p1 p2 p3 = some r) : AC Try.prog 63 [.d (.pv (colD p0) 0), iV p1, iV p2, .d (.clo g_p3 c_p3)] [] (fun res H' => res = [iV r] ∧ H' = []) := by
 refine AC_of_body true Try.func63 rfl Try.ntmps63 (rvs := [.tmp 8]) rfl rfl (fun G hG => ?_)
 have hm : G.H.length = 0 := by rw [hG]; rfl
 have hz : zeroG G.H = true := by rw [hG]; rfl
 unfold impl_Colouring_countThat at h
 refine kR ?_
 refine AOps_boxI 6 _ _ (iD p2) _ rfl (fun c hc => by cases hc with | head => rfl | tail _ h => cases h) rfl rfl rfl rfl rfl ?_
 refine AOps_boxI 7 _ _ (.clo g_p3 c_p3) _ rfl (fun c hc => by cases hc with | head => rfl | tail _ h => cases h) rfl rfl rfl rfl rfl ?_
 refine kN 1 rfl ?_
 refine kR ?_
 refine AOps_alloc 9 _ _ ([iD 0]) (zero_of Try.typeInfo2 rfl) (by rfl) rfl rfl rfl rfl ?_
 refine AOps_store1 _ _ _ _ _ _ _ _ rfl rfl rfl rfl rfl rfl rfl Try.sizeOf2 (Nat.le_of_ble_eq_true rfl) rfl ?_
 refine AOps_nil ?_
 refine kR ?_
 refine kM 2 rfl ?_
 refine AOps_q 12 _ rfl rfl rfl (QOp_makeFunc _ _ _ rfl rfl) ?_
 obtain ⟨r1, hr1, h⟩ := bindO h
 refine kC [0] 13 (bV r1.1) [.box [iD r1.2]] rfl Try.call83 rfl rfl (impl_Colouring_cliques_on_countThat_c1_ac k p0 p1 ([]) p2 p3 0 g_p3 c_p3 hg_p3 hf_p3 _ hr1) rfl ?_
 refine AOps_nil ?_
 refine kR ?_
 refine AOps_q 14 _ rfl rfl rfl (QOp_load_ptr _ _ _ _ _ _ rfl Try.isAgg2 rfl rfl rfl) ?_
 refine kN 1 rfl ?_
 refine ACode_ret ?_
 cases h
 exact ⟨_, _, fun r a w h => ⟨r, h⟩, _, _, [], _, (.cons (ResV_tmp _ _ rfl) .nil), rfl, rfl, rfl, rfl, rfl⟩

-- loop.example/g01362/impl.anyList
def impl_anyList (p0 : List Int) : Bool :=
 true
set_option maxRecDepth 100000 in
theorem impl_anyList_ac (p0 : List Int) : AC Try.prog 64 [.d (.sl none (intsD p0))] [] (fun res H' => res = [bV (impl_anyList p0)] ∧ H' = []) := by
 refine AC_of_body true Try.func64 rfl Try.ntmps64 (rvs := [.tmp 2]) rfl rfl (fun G hG => ?_)
 have hm : G.H.length = 0 := by rw [hG]; rfl
 have hz : zeroG G.H = true := by rw [hG]; rfl
 obtain ⟨r, h⟩ : ∃ r, impl_anyList p0 = r := ⟨_, rfl⟩
 rw [h]
 unfold impl_anyList at h
 refine kR ?_
 refine kN 1 rfl ?_
 refine kR ?_
 refine kN 1 rfl ?_
 refine ACode_ret ?_
 cases h
 exact ⟨_, _, fun r a w h => ⟨r, h⟩, _, _, [], _, (.cons (ResV_tmp _ _ rfl) .nil), rfl, rfl, rfl, rfl, rfl⟩

-- (*loop.example/g01362/impl.Colouring).triangles
def impl_Colouring_triangles_l0 (k : Nat) (p0 : Col) : Nat → Int → (List Int) → Option (List Int)
 | 0, _, _ => none
 | k0 + 1, x1, x2 => (if decide (x1 < p0.k) then (impl_Colouring_countThat k p0 x1 3 (fun a0 => some (impl_anyList a0))).bind fun r4 => (if x2.length + ([r4]).length ≤ 1099511627776 then impl_Colouring_triangles_l0 k p0 k0 (w64 (x1 + 1)) (x2 ++ ([r4])) else none) else some x2)
def impl_Colouring_triangles (k : Nat) (p0 : Col) : Option (List Int) :=
 (impl_Colouring_triangles_l0 k p0 k 0 ([] : List Int) : Option (List Int)).bind fun s6 => some s6
set_option maxRecDepth 100000 in
theorem impl_Colouring_triangles_ac (k : Nat) (p0 : Col) (r : List Int) (h : impl_Colouring_triangles k p0 = some r) : AC Try.prog 44 [.d (.pv (colD p0) 0)] [] (fun res H' => res = [.vec 0 0] ∧ H' = [.vec 0 (intsD r)]) := by
 refine AC_of_body true Try.func44 rfl Try.ntmps44 (rvs := [.tmp 2]) rfl rfl (fun G hG => ?_)
 have hm : G.H.length = 0 := by rw [hG]; rfl
 have hz : zeroG G.H = true := by rw [hG]; rfl
 unfold impl_Colouring_triangles at h
 refine kR ?_
 refine kN 1 rfl ?_
 refine kR ?_
 refine AOps_buildSlice 5 _ _ _ [] (intsD ([] : List Int)) _ rfl rfl rfl rfl rfl (by decide) Try.underlying25 Try.sizeOf2 (zero_of Try.typeInfo2 rfl) rfl rfl (intsD_one _) ?_
 refine kN 1 rfl ?_
 refine kB (fun s6 => [(3, .vec 0 0)]) (fun s6 => [.vec 0 (intsD s6)]) h (fun s6 h => ?_) (fun s6 h => ?_)
 ·refine kR ?_
  refine kM 1 rfl ?_
  refine AOps_q 7 _ rfl rfl rfl (QOp_nilCheck_pv _ _ _ rfl rfl) ?_
  refine AOps_q 8 _ rfl rfl rfl (QOp_fieldAddr_pv _ _ _ _ _ 1 _ _ rfl Try.underlying29 rfl _ Try.sizeOf2 rfl rfl) ?_
  refine AOps_q 9 _ rfl rfl rfl (QOp_load_pv _ _ _ _ _ rfl Try.isAgg2 rfl rfl) ?_
  refine kN 1 rfl ?_
  refine ACode_block ?_
  refine ACode_loopW (fun k0 E H => ∃ (x1 : Int) (x2 : List Int), E = [(0, .d (.pv (colD p0) 0)), (3, .vec 0 0), (9, iV p0.k), (10, iV x1)] ∧ H = [.vec 0 (intsD x2)] ∧ impl_Colouring_triangles_l0 k p0 k0 x1 x2 = some s6) k _ _ (Weak_keep 0 hm [0, 3, 9, 10] [0] _ _ rfl rfl rfl) ⟨_, _, rfl, rfl, h⟩ ?_
  clear h
  rintro k0 E H ⟨x1, x2, rfl, rfl, h⟩
  cases k0 with
  | zero => cases (show (none : Option (List Int)) = some _ from h)
  | succ k0 =>
   rw [impl_Colouring_triangles_l0] at h
   refine kR ?_
   refine AOps_q 11 _ rfl rfl rfl (QOp_lss _ _ _ _ _ _ _ rfl rfl rfl) ?_
   refine AOps_nil ?_
   refine ACode_seq ?_
   refine kI h rfl (fun h _ => ?_) (fun h _ => ?_)
   ·refine ACode_skip ?_
    refine ACode_seq ?_
    refine ACode_block ?_
    refine kR ?_
    refine kN 2 rfl ?_
    refine (ACode_region ?_)
    refine kM 3 rfl ?_
    obtain ⟨r4, hr4, h⟩ := bindO h
    refine kC [] 16 (iV r4) [.vec 0 (intsD x2)] rfl Try.call63 rfl rfl (impl_Colouring_countThat_ac k p0 x1 3 (fun a0 => some (impl_anyList a0)) 64 ([]) Try.call64 (fun a0 r h => by cases h; exact impl_anyList_ac a0) _ hr4) rfl ?_
    refine AOps_buildSlice 17 _ _ _ [_] (intsD ([r4])) _ rfl rfl rfl rfl rfl (by decide) Try.underlying25 Try.sizeOf2 (zero_of Try.typeInfo2 rfl) rfl rfl (intsD_one _) ?_
    obtain ⟨hc5, h⟩ := guardO h
    refine AOps_append 18 _ _ _ _ _ _ _ _ _ _ _ _ rfl rfl rfl rfl rfl rfl rfl Try.underlying25 Try.type2 rfl rfl rfl (by decide) rfl rfl rfl rfl (intsD_one _) (by rw [intsD_length, intsD_length]; exact hc5) ?_
    rw [intsD_app]
    refine kN 1 rfl ?_
    refine (ACode_region ?_)
    refine AOps_q 19 _ rfl rfl rfl (QOp_add _ _ _ _ _ _ _ rfl rfl rfl) ?_
    refine kN 1 rfl ?_
    exact ⟨k0, _, _, Nat.lt_succ_self _, Weak_trans (Weak_keep 0 hm [0, 3, 9, 10] [0] _ _ rfl rfl rfl) (Weak_reset 0 hm hz [0, 3, 9, 10] _ _ rfl rfl), _, _, rfl, rfl, h⟩
   refine ACode_exit ?_
   cases h
   exact Weak_keep 0 hm [3] [0] _ _ rfl rfl rfl
 refine kR ?_
 refine kN 2 rfl ?_
 refine ACode_ret ?_
 cases h
 exact ⟨_, _, Weak_reset 0 hm hz [2] _ _ rfl rfl, _, _, [0], _, (.cons (ResV_tmp _ _ rfl) .nil), rfl, rfl, rfl, rfl, rfl⟩

-- loop.example/g01362/impl.CountTriangles
def impl_CountTriangles (k : Nat) (p0 : Col) : Option (Option (List Int) × Int) :=
 (impl_Colouring_code k p0 (some (impl_always))).bind fun r1 => (if !decide (r1 = 0) then some (none, r1) else (impl_Colouring_triangles k p0).bind fun r3 => some (some r3, 0))
set_option maxRecDepth 100000 in
theorem impl_CountTriangles_ac (k : Nat) (p0 : Col) (r : Option (List Int) × Int) (h : impl_CountTriangles k p0 = some r) : AC Try.prog 20 [.d (.agg (colD p0))] [] (fun res H' => res = [ownA 0 (r.1.map intsD), iV r.2] ∧ H' = [] ++ ownH (r.1.map intsD)) := by
 refine AC_of_body false Try.func20 rfl Try.ntmps20 (rvs := [.tmp 2, .tmp 3]) rfl rfl (fun G hG => ?_)
 have hm : G.H.length = 0 := by rw [hG]; rfl
 have hz : zeroG G.H = true := by rw [hG]; rfl
 unfold impl_CountTriangles at h
 refine kR ?_
 refine AOps_boxI 1 _ _ (.agg (colD p0)) (colD p0) rfl (colD_one _) rfl rfl rfl rfl rfl ?_
 refine kN 2 rfl ?_
 refine ACode_seq ?_
 refine kR ?_
 obtain ⟨r1, hr1, h⟩ := bindO h
 refine kC [] 5 (iV r1) [] rfl Try.call39 rfl rfl (impl_Colouring_code_ac k p0 (some (impl_always)) 29 ([]) Try.call29 (fun r h => by cases h; exact impl_always_ac) _ hr1) rfl ?_
 refine kN 1 rfl ?_
 refine kR ?_
 refine kM 1 rfl ?_
 refine AOps_q 7 _ rfl rfl rfl (QOp_neq _ _ _ _ _ _ _ rfl rfl rfl) ?_
 refine AOps_nil ?_
 refine kI h rfl (fun h _ => ?_) (fun h _ => ?_)
 ·refine kR ?_
  refine kN 3 rfl ?_
  refine ACode_ret ?_
  cases h
  exact ⟨_, _, fun r a w h => ⟨r, h⟩, _, _, [], _, (.cons (ResV_tmp _ _ rfl) (.cons (ResV_tmp _ _ rfl) .nil)), rfl, rfl, rfl, rfl, rfl⟩
 refine ACode_skip ?_
 refine kR ?_
 obtain ⟨r3, hr3, h⟩ := bindO h
 refine kC [] 9 (.vec 0 0) [.vec 0 (intsD r3)] rfl Try.call44 rfl rfl (impl_Colouring_triangles_ac k p0 _ hr3) rfl ?_
 refine kN 2 rfl ?_
 refine ACode_ret ?_
 cases h
 exact ⟨_, _, Weak_reset 0 hm hz [2, 3] _ _ rfl rfl, _, _, [0], _, (.cons (ResV_tmp _ _ rfl) (.cons (ResV_tmp _ _ rfl) .nil)), rfl, rfl, rfl, rfl, rfl⟩

-- (*loop.example/g01362/impl.Colouring).that
def impl_Colouring_that_l0 (p0 : Col) (p1 : Int → Option (Bool)) : Nat → Int → (List Int) → Option (List Int)
 | 0, _, _ => none
 | k0 + 1, x1, x2 => (if decide (x1 < p0.p) then ((p1 x1).bind fun r4 => (if r4 then (if x2.length + ([x1]).length ≤ 1099511627776 then some (x2 ++ ([x1])) else none) else some x2) : Option (List Int)).bind fun s7 => impl_Colouring_that_l0 p0 p1 k0 (w64 (x1 + 1)) s7 else some x2)
def impl_Colouring_that (k : Nat) (p0 : Col) (p1 : Int → Option (Bool)) : Option (List Int) :=
 (impl_Colouring_that_l0 p0 p1 k 0 ([] : List Int) : Option (List Int)).bind fun s8 => some s8
set_option maxRecDepth 100000 in
theorem impl_Colouring_that_ac (k : Nat) (p0 : Col) (p1 : Int → Option (Bool)) (g_p1 : FuncId) (c_p1 : List D) (hg_p1 : ∀ args w, (callFunc g_p1 args).run Try.prog w = .ok (.enter g_p1 args) w) (hf_p1 : ∀ (a0 : Int) (r : Bool), p1 a0 = some r → AC Try.prog g_p1 ([iV a0] ++ c_p1.map AV.d) [] (fun res H' => res = [bV r] ∧ H' = [])) (r : List Int) (h : impl_Colouring_that k p0 p1 = some r) : AC Try.prog 100 [.d (.pv (colD p0) 0), .d (.clo g_p1 c_p1)] [] (fun res H' => res = [.vec 0 0] ∧ H' = [.vec 0 (intsD r)]) := by
 refine AC_of_body true Try.func100 rfl Try.ntmps100 (rvs := [.tmp 4]) rfl rfl (fun G hG => ?_)
 have hm : G.H.length = 0 := by rw [hG]; rfl
 have hz : zeroG G.H = true := by rw [hG]; rfl
 unfold impl_Colouring_that at h
 refine kR ?_
 refine kN 1 rfl ?_
 refine kR ?_
 refine AOps_buildSlice 7 _ _ _ [] (intsD ([] : List Int)) _ rfl rfl rfl rfl rfl (by decide) Try.underlying25 Try.sizeOf2 (zero_of Try.typeInfo2 rfl) rfl rfl (intsD_one _) ?_
 refine kN 1 rfl ?_
 refine kB (fun s8 => [(5, .vec 0 0)]) (fun s8 => [.vec 0 (intsD s8)]) h (fun s8 h => ?_) (fun s8 h => ?_)
 ·refine kR ?_
  refine kM 1 rfl ?_
  refine AOps_q 9 _ rfl rfl rfl (QOp_nilCheck_pv _ _ _ rfl rfl) ?_
  refine AOps_q 10 _ rfl rfl rfl (QOp_fieldAddr_pv _ _ _ _ _ 0 _ _ rfl Try.underlying29 rfl _ Try.sizeOf2 rfl rfl) ?_
  refine AOps_q 11 _ rfl rfl rfl (QOp_load_pv _ _ _ _ _ rfl Try.isAgg2 rfl rfl) ?_
  refine kN 1 rfl ?_
  refine ACode_block ?_
  refine ACode_loopW (fun k0 E H => ∃ (x1 : Int) (x2 : List Int), E = [(1, .d (.clo g_p1 c_p1)), (5, .vec 0 0), (11, iV p0.p), (12, iV x1)] ∧ H = [.vec 0 (intsD x2)] ∧ impl_Colouring_that_l0 p0 p1 k0 x1 x2 = some s8) k _ _ (Weak_keep 0 hm [1, 5, 11, 12] [0] _ _ rfl rfl rfl) ⟨_, _, rfl, rfl, h⟩ ?_
  clear h
  rintro k0 E H ⟨x1, x2, rfl, rfl, h⟩
  cases k0 with
  | zero => cases (show (none : Option (List Int)) = some _ from h)
  | succ k0 =>
   rw [impl_Colouring_that_l0] at h
   refine kR ?_
   refine AOps_q 13 _ rfl rfl rfl (QOp_lss _ _ _ _ _ _ _ rfl rfl rfl) ?_
   refine AOps_nil ?_
   refine ACode_seq ?_
   refine kI h rfl (fun h _ => ?_) (fun h _ => ?_)
   ·refine ACode_skip ?_
    refine kB (fun s7 => [(1, .d (.clo g_p1 c_p1)), (5, .vec 0 0), (11, iV p0.p), (12, iV x1)]) (fun s7 => [.vec 0 (intsD s7)]) h (fun s7 h => ?_) (fun s7 h => ?_)
    ·refine ACode_block ?_
     refine kR ?_
     refine kN 2 rfl ?_
     refine kR ?_
     refine kM 2 rfl ?_
     obtain ⟨r4, hr4, h⟩ := bindO h
     refine kC [] 17 (bV r4) [.vec 0 (intsD x2)] rfl hg_p1 rfl (viewA_mapD _) (hf_p1 x1 _ hr4) rfl ?_
     refine AOps_nil ?_
     refine kI h rfl (fun h _ => ?_) (fun h _ => ?_)
     ·refine (ACode_region ?_)
      refine kM 2 rfl ?_
      refine AOps_buildSlice 20 _ _ _ [_] (intsD ([x1])) _ rfl rfl rfl rfl rfl (by decide) Try.underlying25 Try.sizeOf2 (zero_of Try.typeInfo2 rfl) rfl rfl (intsD_one _) ?_
      obtain ⟨hc6, h⟩ := guardO h
      refine AOps_append 21 _ _ _ _ _ _ _ _ _ _ _ _ rfl rfl rfl rfl rfl rfl rfl Try.underlying25 Try.type2 rfl rfl rfl (by decide) rfl rfl rfl rfl (intsD_one _) (by rw [intsD_length, intsD_length]; exact hc6) ?_
      rw [intsD_app]
      refine kN 1 rfl ?_
      cases h
      exact Weak_trans (Weak_keep 0 hm [1, 5, 11, 12] [0] _ _ rfl rfl rfl) (Weak_reset 0 hm hz [1, 5, 11, 12] _ _ rfl rfl)
     refine ACode_skip ?_
     cases h
     exact Weak_keep 0 hm [1, 5, 11, 12] [0] _ _ rfl rfl rfl
    refine (ACode_region ?_)
    refine AOps_q 22 _ rfl rfl rfl (QOp_add _ _ _ _ _ _ _ rfl rfl rfl) ?_
    refine kN 1 rfl ?_
    exact ⟨k0, _, _, Nat.lt_succ_self _, Weak_keep 0 hm [1, 5, 11, 12] [0] _ _ rfl rfl rfl, _, _, rfl, rfl, h⟩
   refine ACode_exit ?_
   cases h
   exact Weak_keep 0 hm [5] [0] _ _ rfl rfl rfl
 refine kR ?_
 refine kN 2 rfl ?_
 refine ACode_ret ?_
 cases h
 exact ⟨_, _, Weak_reset 0 hm hz [4] _ _ rfl rfl, _, _, [0], _, (.cons (ResV_tmp _ _ rfl) .nil), rfl, rfl, rfl, rfl, rfl⟩

-- (*loop.example/g01362/impl.Colouring).points$1
def impl_Colouring_points_c1 (p0 : Int) : Bool :=
 true
set_option maxRecDepth 100000 in
theorem impl_Colouring_points_c1_ac (p0 : Int) : AC Try.prog 101 [iV p0] [] (fun res H' => res = [bV (impl_Colouring_points_c1 p0)] ∧ H' = []) := by
 refine AC_of_body true Try.func101 rfl Try.ntmps101 (rvs := [.tmp 2]) rfl rfl (fun G hG => ?_)
 have hm : G.H.length = 0 := by rw [hG]; rfl
 have hz : zeroG G.H = true := by rw [hG]; rfl
 obtain ⟨r, h⟩ : ∃ r, impl_Colouring_points_c1 p0 = r := ⟨_, rfl⟩
 rw [h]
 unfold impl_Colouring_points_c1 at h
 refine kR ?_
 refine kN 1 rfl ?_
 refine kR ?_
 refine kN 1 rfl ?_
 refine ACode_ret ?_
 cases h
 exact ⟨_, _, fun r a w h => ⟨r, h⟩, _, _, [], _, (.cons (ResV_tmp _ _ rfl) .nil), rfl, rfl, rfl, rfl, rfl⟩

-- (*loop.example/g01362/impl.Colouring).points
def impl_Colouring_points (k : Nat) (p0 : Col) : Option (List Int) :=
 (impl_Colouring_that k p0 (fun a0 => some (impl_Colouring_points_c1 a0))).bind fun r1 => some r1
set_option maxRecDepth 100000 in
theorem impl_Colouring_points_ac (k : Nat) (p0 : Col) (r : List Int) (h : impl_Colouring_points k p0 = some r) : AC Try.prog 87 [.d (.pv (colD p0) 0)] [] (fun res H' => res = [.vec 0 0] ∧ H' = [.vec 0 (intsD r)]) := by
 refine AC_of_body true Try.func87 rfl Try.ntmps87 (rvs := [.tmp 2]) rfl rfl (fun G hG => ?_)
 have hm : G.H.length = 0 := by rw [hG]; rfl
 have hz : zeroG G.H = true := by rw [hG]; rfl
 unfold impl_Colouring_points at h
 refine kR ?_
 refine kN 1 rfl ?_
 refine kR ?_
 refine kM 1 rfl ?_
 obtain ⟨r1, hr1, h⟩ := bindO h
 refine kC [] 4 (.vec 0 0) [.vec 0 (intsD r1)] rfl Try.call100 rfl rfl (impl_Colouring_that_ac k p0 (fun a0 => some (impl_Colouring_points_c1 a0)) 101 ([]) Try.call101 (fun a0 r h => by cases h; exact impl_Colouring_points_c1_ac a0) _ hr1) rfl ?_
 refine kN 1 rfl ?_
 refine ACode_ret ?_
 cases h
 exact ⟨_, _, Weak_reset 0 hm hz [2] _ _ rfl rfl, _, _, [0], _, (.cons (ResV_tmp _ _ rfl) .nil), rfl, rfl, rfl, rfl, rfl⟩

-- (*loop.example/g01362/impl.Colouring).degreesAt
def impl_Colouring_degreesAt_l0 (p0 : Col) (p1 : Int) : Nat → Int → (List Int) → Option (List Int)
 | 0, _, _ => none
 | k0 + 1, x2, x3 => (if decide (x2 < p0.p) then ((if !decide (x2 = p1) then (impl_Colouring_at p0 p1 x2).bind fun r6 => (if 0 ≤ r6 ∧ r6 < (x3.length : Int) then (if 0 ≤ r6 ∧ r6 < (x3.length : Int) then some (x3.set r6.toNat (w64 ((x3.getD r6.toNat 0) + 1))) else none) else none) else some x3) : Option (List Int)).bind fun s9 => impl_Colouring_degreesAt_l0 p0 p1 k0 (w64 (x2 + 1)) s9 else some x3)
def impl_Colouring_degreesAt (k : Nat) (p0 : Col) (p1 : Int) : Option (List Int) :=
 (if 0 ≤ p0.k ∧ p0.k ≤ p0.k ∧ p0.k ≤ 1099511627776 then (impl_Colouring_degreesAt_l0 p0 p1 k 0 (List.replicate p0.k.toNat (0 : Int)) : Option (List Int)).bind fun s10 => some s10 else none)
set_option maxRecDepth 100000 in
theorem impl_Colouring_degreesAt_ac (k : Nat) (p0 : Col) (p1 : Int) (r : List Int) (h : impl_Colouring_degreesAt k p0 p1 = some r) : AC Try.prog 99 [.d (.pv (colD p0) 0), iV p1] [] (fun res H' => res = [.vec 0 0] ∧ H' = [.vec 0 (intsD r)]) := by
 refine AC_of_body true Try.func99 rfl Try.ntmps99 (rvs := [.tmp 4]) rfl rfl (fun G hG => ?_)
 have hm : G.H.length = 0 := by rw [hG]; rfl
 have hz : zeroG G.H = true := by rw [hG]; rfl
 unfold impl_Colouring_degreesAt at h
 refine kR ?_
 refine kN 1 rfl ?_
 refine kR ?_
 refine kM 1 rfl ?_
 refine AOps_q 8 _ rfl rfl rfl (QOp_nilCheck_pv _ _ _ rfl rfl) ?_
 refine AOps_q 9 _ rfl rfl rfl (QOp_fieldAddr_pv _ _ _ _ _ 1 _ _ rfl Try.underlying29 rfl _ Try.sizeOf2 rfl rfl) ?_
 refine AOps_q 10 _ rfl rfl rfl (QOp_load_pv _ _ _ _ _ rfl Try.isAgg2 rfl rfl) ?_
 obtain ⟨hc1, h⟩ := guardO h
 refine AOps_makeSliceG intsD iD 0 (intsD_rep · _) 11 _ _ _ _ _ _ p0.k p0.k _ (.int .i64 0) rfl rfl rfl rfl rfl rfl Try.underlying25 Try.type2 rfl rfl (by decide) rfl rfl hc1.1 hc1.2.1 hc1.2.2 ?_
 refine kN 1 rfl ?_
 refine kB (fun s10 => [(5, .vec 0 0)]) (fun s10 => [.vec 0 (intsD s10)]) h (fun s10 h => ?_) (fun s10 h => ?_)
 ·refine kR ?_
  refine kM 1 rfl ?_
  refine AOps_q 13 _ rfl rfl rfl (QOp_nilCheck_pv _ _ _ rfl rfl) ?_
  refine AOps_q 14 _ rfl rfl rfl (QOp_fieldAddr_pv _ _ _ _ _ 0 _ _ rfl Try.underlying29 rfl _ Try.sizeOf2 rfl rfl) ?_
  refine AOps_q 15 _ rfl rfl rfl (QOp_load_pv _ _ _ _ _ rfl Try.isAgg2 rfl rfl) ?_
  refine kN 1 rfl ?_
  refine ACode_block ?_
  refine ACode_loopW (fun k0 E H => ∃ (x2 : Int) (x3 : List Int), E = [(0, .d (.pv (colD p0) 0)), (1, iV p1), (5, .vec 0 0), (15, iV p0.p), (16, iV x2)] ∧ H = [.vec 0 (intsD x3)] ∧ impl_Colouring_degreesAt_l0 p0 p1 k0 x2 x3 = some s10) k _ _ (Weak_keep 0 hm [0, 1, 5, 15, 16] [0] _ _ rfl rfl rfl) ⟨_, _, rfl, rfl, h⟩ ?_
  clear h
  rintro k0 E H ⟨x2, x3, rfl, rfl, h⟩
  cases k0 with
  | zero => cases (show (none : Option (List Int)) = some _ from h)
  | succ k0 =>
   rw [impl_Colouring_degreesAt_l0] at h
   refine kR ?_
   refine AOps_q 17 _ rfl rfl rfl (QOp_lss _ _ _ _ _ _ _ rfl rfl rfl) ?_
   refine AOps_nil ?_
   refine ACode_seq ?_
   refine kI h rfl (fun h _ => ?_) (fun h _ => ?_)
   ·refine ACode_skip ?_
    refine kB (fun s9 => [(0, .d (.pv (colD p0) 0)), (1, iV p1), (5, .vec 0 0), (15, iV p0.p), (16, iV x2)]) (fun s9 => [.vec 0 (intsD s9)]) h (fun s9 h => ?_) (fun s9 h => ?_)
    ·refine ACode_block ?_
     refine kR ?_
     refine kN 2 rfl ?_
     refine kR ?_
     refine kM 2 rfl ?_
     refine AOps_q 21 _ rfl rfl rfl (QOp_neq _ _ _ _ _ _ _ rfl rfl rfl) ?_
     refine AOps_nil ?_
     refine kI h rfl (fun h _ => ?_) (fun h _ => ?_)
     ·refine (ACode_region ?_)
      refine kM 4 rfl ?_
      obtain ⟨r6, hr6, h⟩ := bindO h
      refine kC [] 26 (iV r6) [.vec 0 (intsD x3)] rfl Try.call61 rfl rfl (impl_Colouring_at_ac p0 p1 x2 _ hr6) rfl ?_
      obtain ⟨hc7, h⟩ := guardO h
      refine AOps_q 27 _ rfl rfl rfl (QOp_indexAddr_vec _ _ _ _ _ _ _ _ _ rfl Try.underlying25 Try.sizeOf2 hc7.1 (by rw [intsD_length]; exact hc7.2) rfl rfl rfl) ?_
      refine AOps_q 28 _ rfl rfl rfl (QOp_load_eptr _ _ _ _ _ _ _ rfl Try.isAgg2 rfl rfl (intsD_get _ _ 0 (by omega))) ?_
      refine AOps_q 29 _ rfl rfl rfl (QOp_add _ _ _ _ _ _ _ rfl rfl rfl) ?_
      obtain ⟨hc8, h⟩ := guardO h
      refine AOps_q 30 _ rfl rfl rfl (QOp_indexAddr_vec _ _ _ _ _ _ _ _ _ rfl Try.underlying25 Try.sizeOf2 hc8.1 (by rw [intsD_length]; exact hc8.2) rfl rfl rfl) ?_
      refine AOps_store_eptr _ _ _ _ _ _ (intsD x3) _ rfl rfl rfl rfl rfl rfl rfl Try.sizeOf2 (by rw [intsD_length]; omega) ?_
      rw [intsD_set]
      refine AOps_nil ?_
      cases h
      exact Weak_keep 0 hm [0, 1, 5, 15, 16] [0] _ _ rfl rfl rfl
     refine ACode_skip ?_
     cases h
     exact Weak_keep 0 hm [0, 1, 5, 15, 16] [0] _ _ rfl rfl rfl
    refine (ACode_region ?_)
    refine AOps_q 31 _ rfl rfl rfl (QOp_add _ _ _ _ _ _ _ rfl rfl rfl) ?_
    refine kN 1 rfl ?_
    exact ⟨k0, _, _, Nat.lt_succ_self _, Weak_keep 0 hm [0, 1, 5, 15, 16] [0] _ _ rfl rfl rfl, _, _, rfl, rfl, h⟩
   refine ACode_exit ?_
   cases h
   exact Weak_keep 0 hm [5] [0] _ _ rfl rfl rfl
 refine kR ?_
 refine kN 2 rfl ?_
 refine ACode_ret ?_
 cases h
 exact ⟨_, _, Weak_reset 0 hm hz [4] _ _ rfl rfl, _, _, [0], _, (.cons (ResV_tmp _ _ rfl) .nil), rfl, rfl, rfl, rfl, rfl⟩

-- slices.Equal[[]int64,int64]
def slices_Equal_l0 (p0 : List Int) (p1 : List Int) : Nat → Int → Option (Sum (Unit) (Bool))
 | 0, _ => none
 | k0 + 1, x2 => (if decide (x2 < (p0.length : Int)) then (if 0 ≤ x2 ∧ x2 < (p0.length : Int) then (if 0 ≤ x2 ∧ x2 < (p1.length : Int) then (if !decide ((p0.getD x2.toNat 0) = (p1.getD x2.toNat 0)) then some (.inr false) else slices_Equal_l0 p0 p1 k0 (w64 (x2 + 1))) else none) else none) else some (.inl ()))
def slices_Equal (k : Nat) (p0 : List Int) (p1 : List Int) : Option (Bool) :=
 (if !decide ((p0.length : Int) = (p1.length : Int)) then some false else (slices_Equal_l0 p0 p1 k 0 : Option (Sum (Unit) (Bool))).bind fun os7 => (match os7 with | .inl s7 => some true | .inr rr => some rr))
set_option maxRecDepth 100000 in
theorem slices_Equal_ac (k : Nat) (p0 : List Int) (p1 : List Int) (r : Bool) (h : slices_Equal k p0 p1 = some r) : AC Try.prog 98 [.d (.sl none (intsD p0)), .d (.sl none (intsD p1))] [] (fun res H' => res = [bV r] ∧ H' = []) := by
 refine AC_of_body true Try.func98 rfl Try.ntmps98 (rvs := [.tmp 4]) rfl rfl (fun G hG => ?_)
 have hm : G.H.length = 0 := by rw [hG]; rfl
 have hz : zeroG G.H = true := by rw [hG]; rfl
 unfold slices_Equal at h
 refine kR ?_
 refine kN 1 rfl ?_
 refine ACode_seq ?_
 refine kR ?_
 refine kM 1 rfl ?_
 refine AOps_q 7 _ rfl rfl rfl (QOp_len_sl _ _ _ _ _ _ _ (intsD_length _) rfl rfl rfl rfl Try.underlying25 rfl) ?_
 refine kM 1 rfl ?_
 refine AOps_q 9 _ rfl rfl rfl (QOp_len_sl _ _ _ _ _ _ _ (intsD_length _) rfl rfl rfl rfl Try.underlying25 rfl) ?_
 refine AOps_q 10 _ rfl rfl rfl (QOp_neq _ _ _ _ _ _ _ rfl rfl rfl) ?_
 refine AOps_nil ?_
 refine kI h rfl (fun h _ => ?_) (fun h _ => ?_)
 ·refine kR ?_
  refine kN 1 rfl ?_
  refine ACode_ret ?_
  cases h
  exact ⟨_, _, fun r a w h => ⟨r, h⟩, _, _, [], _, (.cons (ResV_tmp _ _ rfl) .nil), rfl, rfl, rfl, rfl, rfl⟩
 refine ACode_skip ?_
 refine kO (fun s7 => []) (fun s7 => []) h (fun os7 h hks7 => ?_) (fun s7 h => ?_)
 ·refine kR ?_
  refine kM 1 rfl ?_
  refine AOps_q 12 _ rfl rfl rfl (QOp_len_sl _ _ _ _ _ _ _ (intsD_length _) rfl rfl rfl rfl Try.underlying25 rfl) ?_
  refine kN 1 rfl ?_
  refine ACode_block ?_
  refine ACode_loopW (fun k0 E H => ∃ (x2 : Int), E = [(0, .d (.sl none (intsD p0))), (1, .d (.sl none (intsD p1))), (12, iV (p0.length : Int)), (13, iV x2)] ∧ H = [] ∧ slices_Equal_l0 p0 p1 k0 x2 = some os7) k _ _ (Weak_keep 0 hm [0, 1, 12, 13] [] _ _ rfl rfl rfl) ⟨_, rfl, rfl, h⟩ ?_
  clear h
  rintro k0 E H ⟨x2, rfl, rfl, h⟩
  cases k0 with
  | zero => cases (show (none : Option (Sum (Unit) (Bool))) = some _ from h)
  | succ k0 =>
   rw [slices_Equal_l0] at h
   refine kR ?_
   refine AOps_q 14 _ rfl rfl rfl (QOp_lss _ _ _ _ _ _ _ rfl rfl rfl) ?_
   refine AOps_nil ?_
   refine ACode_seq ?_
   refine kI h rfl (fun h _ => ?_) (fun h _ => ?_)
   ·refine ACode_skip ?_
    refine ACode_seq ?_
    refine ACode_block ?_
    refine kR ?_
    refine kN 2 rfl ?_
    refine ACode_seq (ACode_quiet mixed (by kernel_rfl) ?_)
    refine kQ 2 rfl ?_
    obtain ⟨hc4, h⟩ := guardO h
    refine AQ_q 18 _ rfl rfl rfl (QOp_indexAddr_sl _ _ _ _ _ _ _ _ rfl Try.underlying25 Try.sizeOf2 hc4.1 (by rw [intsD_length]; exact hc4.2) rfl rfl) ?_
    refine AQ_q 19 _ rfl rfl rfl (QOp_load_pv _ _ _ _ _ rfl Try.isAgg2 rfl (intsD_get _ _ 0 (by omega))) ?_
    refine kQ 2 rfl ?_
    obtain ⟨hc5, h⟩ := guardO h
    refine AQ_q 22 _ rfl rfl rfl (QOp_indexAddr_sl _ _ _ _ _ _ _ _ rfl Try.underlying25 Try.sizeOf2 hc5.1 (by rw [intsD_length]; exact hc5.2) rfl rfl) ?_
    refine AQ_q 23 _ rfl rfl rfl (QOp_load_pv _ _ _ _ _ rfl Try.isAgg2 rfl (intsD_get _ _ 0 (by omega))) ?_
    refine AQ_q 24 _ rfl rfl rfl (QOp_neq _ _ _ _ _ _ _ rfl rfl rfl) ?_
    refine AQ_nil ?_
    refine kI h rfl (fun h _ => ?_) (fun h _ => ?_)
    ·refine kR ?_
     refine kN 1 rfl ?_
     refine ACode_ret ?_
     cases h
     have h := hks7
     cases h
     exact ⟨_, _, fun r a w h => ⟨r, h⟩, _, _, [], _, (.cons (ResV_tmp _ _ rfl) .nil), rfl, rfl, rfl, rfl, rfl⟩
    refine ACode_skip ?_
    refine (ACode_region ?_)
    refine AOps_q 25 _ rfl rfl rfl (QOp_add _ _ _ _ _ _ _ rfl rfl rfl) ?_
    refine kN 1 rfl ?_
    exact ⟨k0, _, _, Nat.lt_succ_self _, Weak_keep 0 hm [0, 1, 12, 13] [] _ _ rfl rfl rfl, _, rfl, rfl, h⟩
   refine ACode_exit ?_
   cases h
   exact ⟨_, rfl, Weak_keep 0 hm [] [] _ _ rfl rfl rfl⟩
 refine kR ?_
 refine kN 1 rfl ?_
 refine ACode_ret ?_
 cases h
 exact ⟨_, _, fun r a w h => ⟨r, h⟩, _, _, [], _, (.cons (ResV_tmp _ _ rfl) .nil), rfl, rfl, rfl, rfl, rfl⟩

-- loop.example/g01362/impl.newTracer
def impl_newTracer_l1 (k : Nat) (p0 : Col) (p1 : Col) (x5 : Int) : Nat → Int → Tra → Option (Tra)
 | 0, _, _ => none
 | k1 + 1, x8, x9 => (if decide (x8 < p1.p) then (if 0 ≤ x5 ∧ x5 < 17 then (impl_Colouring_degreesAt k p0 x5).bind fun r12 => (impl_Colouring_degreesAt k p1 x8).bind fun r13 => (slices_Equal k r12 r13).bind fun r14 => (if 0 ≤ x8 ∧ x8 < 17 then impl_newTracer_l1 k p0 p1 x5 k1 (w64 (x8 + 1)) (x9.set (x5.toNat * 17 + x8.toNat) r14) else none) else none) else some x9)
def impl_newTracer_l0 (k : Nat) (p0 : Col) (p1 : Col) : Nat → Int → Tra → Option (Tra)
 | 0, _, _ => none
 | k0 + 1, x5, x6 => (if decide (x5 < p0.p) then (impl_newTracer_l1 k p0 p1 x5 k 0 x6 : Option (Tra)).bind fun s16 => impl_newTracer_l0 k p0 p1 k0 (w64 (x5 + 1)) s16 else some x6)
def impl_newTracer (k : Nat) (p0 : Col) (p1 : Col) (p2 : List Int) : Option (Option Tra) :=
 (letO (if !decide (p0.p = p1.p) then true else !decide (p0.k = p1.k)) fun (s2 : Bool) => (if s2 then some (.inr none) else some (.inl ())) : Option (Sum (Unit) (Option Tra))).bind fun os4 => (match os4 with | .inl s4 => (impl_newTracer_l0 k p0 p1 k 0 (⟨p0, p1, p2, S17.zero⟩ : Tra) : Option (Tra)).bind fun s17 => some (some s17) | .inr rr => some rr)
set_option maxRecDepth 100000 in
theorem impl_newTracer_ac (k : Nat) (p0 : Col) (p1 : Col) (p2 : List Int) (r : Option Tra) (h : impl_newTracer k p0 p1 p2 = some r) : AC Try.prog 86 [.d (.pv (colD p0) 0), .d (.pv (colD p1) 0), .d (.sl none (intsD p2))] [] (fun res H' => res = [.d (traP r)] ∧ H' = []) := by
 refine AC_of_body true Try.func86 rfl Try.ntmps86 (rvs := [.tmp 6]) rfl rfl (fun G hG => ?_)
 have hm : G.H.length = 0 := by rw [hG]; rfl
 have hz : zeroG G.H = true := by rw [hG]; rfl
 unfold impl_newTracer at h
 refine kR ?_
 refine kN 1 rfl ?_
 refine kO (fun s4 => [(0, .d (.pv (colD p0) 0)), (1, .d (.pv (colD p1) 0)), (2, .d (.sl none (intsD p2)))]) (fun s4 => []) h (fun os4 h hks4 => ?_) (fun s4 h => ?_)
 ·refine kL (fun s2 => [(0, .d (.pv (colD p0) 0)), (1, .d (.pv (colD p1) 0)), (2, .d (.sl none (intsD p2))), (29, bV s2)]) (fun s2 => []) h (fun s2 h => ?_) (fun s2 h => ?_)
  ·refine (ACode_quiet mixed (by kernel_rfl) ?_)
   refine kQ 1 rfl ?_
   refine AQ_q 11 _ rfl rfl rfl (QOp_nilCheck_pv _ _ _ rfl rfl) ?_
   refine AQ_q 12 _ rfl rfl rfl (QOp_fieldAddr_pv _ _ _ _ _ 0 _ _ rfl Try.underlying29 rfl _ Try.sizeOf2 rfl rfl) ?_
   refine AQ_q 13 _ rfl rfl rfl (QOp_load_pv _ _ _ _ _ rfl Try.isAgg2 rfl rfl) ?_
   refine kQ 1 rfl ?_
   refine AQ_q 15 _ rfl rfl rfl (QOp_nilCheck_pv _ _ _ rfl rfl) ?_
   refine AQ_q 16 _ rfl rfl rfl (QOp_fieldAddr_pv _ _ _ _ _ 0 _ _ rfl Try.underlying29 rfl _ Try.sizeOf2 rfl rfl) ?_
   refine AQ_q 17 _ rfl rfl rfl (QOp_load_pv _ _ _ _ _ rfl Try.isAgg2 rfl rfl) ?_
   refine AQ_q 18 _ rfl rfl rfl (QOp_neq _ _ _ _ _ _ _ rfl rfl rfl) ?_
   refine kQ 1 rfl ?_
   refine AQ_case 19 _ rfl (fun hb1 => ?_) (fun hb1 => ?_)
   ·have h := iteT hb1 h
    refine AQ_skip 20 rfl rfl rfl ?_
    refine AQ_skip 21 rfl rfl rfl ?_
    refine AQ_skip 22 rfl rfl rfl ?_
    refine AQ_skip 23 rfl rfl rfl ?_
    refine AQ_skip 24 rfl rfl rfl ?_
    refine AQ_skip 25 rfl rfl rfl ?_
    refine AQ_skip 26 rfl rfl rfl ?_
    refine AQ_skip 27 rfl rfl rfl ?_
    refine AQ_skip 28 rfl rfl rfl ?_
    refine kQ 1 rfl ?_
    refine AQ_nil ?_
    cases h
    exact Weak_keep 0 hm [0, 1, 2, 29] [] _ _ rfl rfl rfl
   have h := iteF hb1 h
   refine kQ 1 rfl ?_
   refine AQ_q 21 _ rfl rfl rfl (QOp_nilCheck_pv _ _ _ rfl rfl) ?_
   refine AQ_q 22 _ rfl rfl rfl (QOp_fieldAddr_pv _ _ _ _ _ 1 _ _ rfl Try.underlying29 rfl _ Try.sizeOf2 rfl rfl) ?_
   refine AQ_q 23 _ rfl rfl rfl (QOp_load_pv _ _ _ _ _ rfl Try.isAgg2 rfl rfl) ?_
   refine kQ 1 rfl ?_
   refine AQ_q 25 _ rfl rfl rfl (QOp_nilCheck_pv _ _ _ rfl rfl) ?_
   refine AQ_q 26 _ rfl rfl rfl (QOp_fieldAddr_pv _ _ _ _ _ 1 _ _ rfl Try.underlying29 rfl _ Try.sizeOf2 rfl rfl) ?_
   refine AQ_q 27 _ rfl rfl rfl (QOp_load_pv _ _ _ _ _ rfl Try.isAgg2 rfl rfl) ?_
   refine AQ_q 28 _ rfl rfl rfl (QOp_neq _ _ _ _ _ _ _ rfl rfl rfl) ?_
   refine kQ 1 rfl ?_
   refine AQ_nil ?_
   cases h
   exact Weak_keep 0 hm [0, 1, 2, 29] [] _ _ rfl rfl rfl
  refine kI h rfl (fun h _ => ?_) (fun h _ => ?_)
  ·refine kR ?_
   refine kN 1 rfl ?_
   refine ACode_ret ?_
   cases h
   have h := hks4
   cases h
   exact ⟨_, _, fun r a w h => ⟨r, h⟩, _, _, [], _, (.cons (ResV_tmp _ _ rfl) .nil), rfl, rfl, rfl, rfl, rfl⟩
  refine ACode_skip ?_
  cases h
  exact ⟨_, rfl, Weak_keep 0 hm [0, 1, 2] [] _ _ rfl rfl rfl⟩
 refine kR ?_
 refine kM 3 rfl ?_
 refine AOps_q 33 _ rfl rfl rfl (QOp_build _ _ [_, _, _] [0, 1, 2] [.pv (colD p0) 0, .pv (colD p1) 0, .sl none (intsD p2)] _ traZ (traD (⟨p0, p1, p2, S17.zero⟩ : Tra)) [(0, 1), (1, 1), (2, 1), (3, 289)] rfl rfl Try.underlying110 (zero_of Try.typeInfo110 rfl) (fun w => by simp [Try.sizeOf73, Try.sizeOf73, Try.sizeOf25, Try.sizeOf108]) rfl (by rfl) (by rfl) (allc (ok1 rfl) (allc (ok1 rfl) (allc (ok1 rfl) (fun _ h => nomatch h))))) ?_
 refine AOps_boxM 34 _ _ (.agg (traD (⟨p0, p1, p2, S17.zero⟩ : Tra))) (traD (⟨p0, p1, p2, S17.zero⟩ : Tra)) rfl (traD_one _) rfl rfl rfl rfl rfl ?_
 refine kN 1 rfl ?_
 refine kB (fun s17 => [(7, .ptr 0 0)]) (fun s17 => [.box (traD s17)]) h (fun s17 h => ?_) (fun s17 h => ?_)
 ·refine kR ?_
  refine kM 1 rfl ?_
  refine AOps_q 36 _ rfl rfl rfl (QOp_nilCheck_pv _ _ _ rfl rfl) ?_
  refine AOps_q 37 _ rfl rfl rfl (QOp_fieldAddr_pv _ _ _ _ _ 0 _ _ rfl Try.underlying29 rfl _ Try.sizeOf2 rfl rfl) ?_
  refine AOps_q 38 _ rfl rfl rfl (QOp_load_pv _ _ _ _ _ rfl Try.isAgg2 rfl rfl) ?_
  refine kN 1 rfl ?_
  refine ACode_block ?_
  refine ACode_loopW (fun k0 E H => ∃ (x5 : Int) (x6 : Tra), E = [(0, .d (.pv (colD p0) 0)), (1, .d (.pv (colD p1) 0)), (7, .ptr 0 0), (38, iV p0.p), (39, iV x5)] ∧ H = [.box (traD x6)] ∧ impl_newTracer_l0 k p0 p1 k0 x5 x6 = some s17) k _ _ (Weak_keep 0 hm [0, 1, 7, 38, 39] [0] _ _ rfl rfl rfl) ⟨_, _, rfl, rfl, h⟩ ?_
  clear h
  rintro k0 E H ⟨x5, x6, rfl, rfl, h⟩
  cases k0 with
  | zero => cases (show (none : Option (Tra)) = some _ from h)
  | succ k0 =>
   rw [impl_newTracer_l0] at h
   refine kR ?_
   refine AOps_q 40 _ rfl rfl rfl (QOp_lss _ _ _ _ _ _ _ rfl rfl rfl) ?_
   refine AOps_nil ?_
   refine ACode_seq ?_
   refine kI h rfl (fun h _ => ?_) (fun h _ => ?_)
   ·refine ACode_skip ?_
    refine kB (fun s16 => [(0, .d (.pv (colD p0) 0)), (1, .d (.pv (colD p1) 0)), (7, .ptr 0 0), (38, iV p0.p), (39, iV x5)]) (fun s16 => [.box (traD s16)]) h (fun s16 h => ?_) (fun s16 h => ?_)
    ·refine ACode_block ?_
     refine kR ?_
     refine kN 2 rfl ?_
     refine kR ?_
     refine kM 1 rfl ?_
     refine AOps_q 43 _ rfl rfl rfl (QOp_nilCheck_pv _ _ _ rfl rfl) ?_
     refine AOps_q 44 _ rfl rfl rfl (QOp_fieldAddr_pv _ _ _ _ _ 0 _ _ rfl Try.underlying29 rfl _ Try.sizeOf2 rfl rfl) ?_
     refine AOps_q 45 _ rfl rfl rfl (QOp_load_pv _ _ _ _ _ rfl Try.isAgg2 rfl rfl) ?_
     refine kN 1 rfl ?_
     refine ACode_block ?_
     refine ACode_loopW (fun k1 E H => ∃ (x8 : Int) (x9 : Tra), E = [(0, .d (.pv (colD p0) 0)), (1, .d (.pv (colD p1) 0)), (7, .ptr 0 0), (8, iV x5), (38, iV p0.p), (39, iV x5), (45, iV p1.p), (46, iV x8)] ∧ H = [.box (traD x9)] ∧ impl_newTracer_l1 k p0 p1 x5 k1 x8 x9 = some s16) k _ _ (Weak_keep 0 hm [0, 1, 7, 8, 38, 39, 45, 46] [0] _ _ rfl rfl rfl) ⟨_, _, rfl, rfl, h⟩ ?_
     clear h
     rintro k1 E H ⟨x8, x9, rfl, rfl, h⟩
     cases k1 with
     | zero => cases (show (none : Option (Tra)) = some _ from h)
     | succ k1 =>
      rw [impl_newTracer_l1] at h
      refine kR ?_
      refine AOps_q 47 _ rfl rfl rfl (QOp_lss _ _ _ _ _ _ _ rfl rfl rfl) ?_
      refine AOps_nil ?_
      refine ACode_seq ?_
      refine kI h rfl (fun h _ => ?_) (fun h _ => ?_)
      ·refine ACode_skip ?_
       refine ACode_seq ?_
       refine ACode_block ?_
       refine kR ?_
       refine kN 2 rfl ?_
       refine ACode_anyU mixed ?_
       refine AU_u 0 49 _ rfl (by kernel_rfl) rfl rfl rfl (UOp_move _ _ rfl rfl) ?_
       refine AU_u 1 50 _ rfl (by kernel_rfl) rfl rfl rfl (UOp_move _ _ rfl rfl) ?_
       refine AU_u 2 51 _ rfl (by kernel_rfl) rfl rfl rfl (UOp_move _ _ rfl rfl) ?_
       refine AU_u 3 52 _ rfl (by kernel_rfl) rfl rfl rfl (UOp_move _ _ rfl rfl) ?_
       refine AU_u 4 53 _ rfl (by kernel_rfl) rfl rfl rfl (UOp_move _ _ rfl rfl) ?_
       refine AU_u 6 55 _ rfl (by kernel_rfl) rfl rfl rfl (UOp_move _ _ rfl rfl) ?_
       refine AU_u 7 56 _ rfl (by kernel_rfl) rfl rfl rfl (UOp_move _ _ rfl rfl) ?_
       refine AU_u 10 59 _ rfl (by kernel_rfl) rfl rfl rfl (UOp_nilCheck_ptr _ _ _ _ rfl rfl rfl rfl) ?_
       refine AU_u 11 60 _ rfl (by kernel_rfl) rfl rfl rfl (UOp_fieldAddr_ptr _ _ _ _ _ _ 3 _ _ rfl Try.underlying110 rfl _ Try.sizeOf108 rfl rfl rfl rfl) ?_
       obtain ⟨hc11, h⟩ := guardO h
       refine AU_u 12 61 _ rfl (by kernel_rfl) rfl rfl rfl (UOp_indexAddrM_ptr _ _ _ _ _ _ _ _ _ _ _ rfl Try.underlying108 Try.sizeOf107 hc11.1 hc11.2 rfl rfl rfl rfl) ?_
       refine AU_all [5] (by kernel_rfl) rfl (allc ?_ (fun _ h => nomatch h))
       refine US_of 5 rfl rfl ?_
       obtain ⟨r12, hr12, h⟩ := bindO h
       refine kC [] 54 (.vec 1 0) [.box (traD x9), .vec 0 (intsD r12)] rfl Try.call99 rfl rfl (impl_Colouring_degreesAt_ac k p0 x5 _ hr12) rfl ?_
       refine AOps_nil ?_
       refine AU_all [8] (by kernel_rfl) rfl (allc ?_ (fun _ h => nomatch h))
       refine US_of 8 rfl rfl ?_
       obtain ⟨r13, hr13, h⟩ := bindO h
       refine kC [] 57 (.vec 2 0) [.box (traD x9), .vec 0 (intsD r12), .vec 0 (intsD r13)] rfl Try.call99 rfl rfl (impl_Colouring_degreesAt_ac k p1 x8 _ hr13) rfl ?_
       refine AOps_nil ?_
       refine AU_all [9] (by kernel_rfl) rfl (allc ?_ (fun _ h => nomatch h))
       refine US_of 9 rfl rfl ?_
       obtain ⟨r14, hr14, h⟩ := bindO h
       refine AOps_callL [] 58 _ _ _ _ _ _ _ _ _ _ rfl rfl rfl rfl rfl rfl rfl Try.call98 rfl (nodupB_sound _ rfl) rfl rfl rfl (slices_Equal_ac k r12 r13 _ hr14) ?_
       rintro _ _ ⟨rfl, rfl⟩
       refine ⟨(fun _ h => nomatch h), (allc (flat_s _) (fun _ h => nomatch h)), AOps_as 58 (v' := bV r14) (H' := [.box (traD x9), .vec 0 (intsD r12), .vec 0 (intsD r13)]) rfl rfl ?_⟩
       refine AOps_nil ?_
       obtain ⟨hc15, h⟩ := guardO h
       refine AU_u 13 62 _ rfl (by kernel_rfl) rfl rfl rfl (UOp_indexAddrA_ptr _ _ _ _ _ _ _ _ _ _ rfl Try.underlying107 Try.sizeOf4 hc15.1 hc15.2 rfl rfl rfl rfl) ?_
       refine AU_all [14] (by kernel_rfl) rfl (allc ?_ (fun _ h => nomatch h))
       refine US_of 14 rfl rfl ?_
       refine AOps_store1 _ _ _ _ _ _ (traD (x9.set (x5.toNat * 17 + x8.toNat) r14)) _ rfl rfl rfl rfl rfl rfl rfl Try.sizeOf4 (by rw [traD_length]; omega) (traD_set x9 (x5.toNat * 17) x8.toNat r14) ?_
       refine AOps_nil ?_
       refine AU_done (by kernel_rfl) ?_
       refine (ACode_region ?_)
       refine AOps_q 63 _ rfl rfl rfl (QOp_add _ _ _ _ _ _ _ rfl rfl rfl) ?_
       refine kN 1 rfl ?_
       exact ⟨k1, _, _, Nat.lt_succ_self _, Weak_keep 0 hm [0, 1, 7, 8, 38, 39, 45, 46] [0] _ _ rfl rfl rfl, _, _, rfl, rfl, h⟩
      refine ACode_exit ?_
      cases h
      exact Weak_keep 0 hm [0, 1, 7, 38, 39] [0] _ _ rfl rfl rfl
    refine (ACode_region ?_)
    refine AOps_q 64 _ rfl rfl rfl (QOp_add _ _ _ _ _ _ _ rfl rfl rfl) ?_
    refine kN 1 rfl ?_
    exact ⟨k0, _, _, Nat.lt_succ_self _, Weak_keep 0 hm [0, 1, 7, 38, 39] [0] _ _ rfl rfl rfl, _, _, rfl, rfl, h⟩
   refine ACode_exit ?_
   cases h
   exact Weak_keep 0 hm [7] [0] _ _ rfl rfl rfl
 refine kR ?_
 refine kN 2 rfl ?_
 refine ACode_ret ?_
 cases h
 exact ⟨_, _, Weak_frzB 0 [(6, .d (.pv (traD s17) 0))] _ rfl (allc ⟨_, rfl, rfl⟩ (fun _ h => nomatch h)), _, _, [], _, (.cons (ResV_tmp _ _ rfl) .nil), rfl, rfl, rfl, rfl, rfl⟩

-- (*loop.example/g01362/impl.Colouring).renumbering$1
def impl_Colouring_renumbering_c1 (p0 : List Int) (p0n : Nat) (p1 : List Int) : Option (Bool × List Int × List Int) :=
 (if ((p0.drop 0).take p0n).isEmpty then none else (cloneA ((p0.drop 0).take p0n)).bind fun r3 => some (false, p0, r3))
set_option maxRecDepth 100000 in
theorem impl_Colouring_renumbering_c1_ac (p0 : List Int) (p0n : Nat) (p1 : List Int) (r : Bool × List Int × List Int) (h : impl_Colouring_renumbering_c1 p0 p0n p1 = some r) : AC Try.prog 67 [.part 0 0 0 p0n, .ptr 1 0] [.vec 0 (intsD p0), .ref (.vec 2 0), .vec 0 (intsD p1)] (fun res H' => res = [bV r.1] ∧ H' = [.vec 0 (intsD r.2.1), .ref (.vec 2 1), .vec 1 (intsD r.2.2)]) := by
 refine AC_of_body true Try.func67 rfl Try.ntmps67 (rvs := [.tmp 3]) rfl rfl (fun G hG => ?_)
 have hm : G.H.length = 3 := by rw [hG]; rfl
 have hz : zeroG G.H = true := by rw [hG]; rfl
 refine ACode_weak (Weak_bump 1 2 _ rfl rfl _ rfl) ?_
 unfold impl_Colouring_renumbering_c1 at h
 refine kR ?_
 refine kN 1 rfl ?_
 refine kR ?_
 refine kM 1 rfl ?_
 refine bsplit (((p0.drop 0).take p0n).isEmpty) (fun hb1 => ?_) (fun hb1 => ?_)
 ·have h := iteT hb1 h
  cases h
 have h := iteF hb1 h
 obtain ⟨r3, hr3, h⟩ := bindO h
 refine AOps_callL [] 5 _ _ _ _ _ _ _ _ _ _ rfl rfl rfl rfl rfl rfl rfl Try.call32 rfl (nodupB_sound _ rfl) rfl rfl rfl (by have q := cloneA_ac ((p0.drop 0).take p0n) _ hb1 hr3; simp only [intsD_dt] at q; exact q) ?_
 rintro _ _ ⟨rfl, rfl⟩
 refine ⟨(allc (intsD_flat _) (fun _ h => nomatch h)), (allc (trivial) (fun _ h => nomatch h)), AOps_as 5 (v' := .vec 3 0) (H' := [.vec 0 (intsD p0), .ref (.vec 2 1), .vec 1 (intsD p1), .vec 0 (intsD r3)]) rfl rfl ?_⟩
 refine AOps_storeR 1 _ _ _ _ _ rfl rfl rfl rfl rfl rfl rfl rfl Try.sizeOf25 (fun r a w hr => vec_one hr rfl rfl rfl) ?_
 refine AOps_weak (Weak_move 1 2 3 _ _ _ _ rfl rfl rfl rfl _ rfl) ?_
 refine AOps_nil ?_
 refine kR ?_
 refine kN 1 rfl ?_
 refine ACode_ret ?_
 cases h
 exact ⟨_, _, Weak_reset 3 hm hz [3] _ _ rfl rfl, _, _, [], _, (.cons (ResV_tmp _ _ rfl) .nil), rfl, rfl, rfl, rfl, rfl⟩

-- (*loop.example/g01362/impl.tracer).all
def impl_tracer_all_on_renumbering_c1_l1 (p0 : Tra) (p1n : Nat) (x4 : Int) (x5 : List Int) : Nat → Bool → Int → Option (Bool)
 | 0, _, _ => none
 | k1 + 1, x11, x12 => (if decide (x12 < ((p1n : Nat) : Int)) then ((if 0 ≤ x12 ∧ x12 < ((p1n : Nat) : Int) ∧ 0 + p1n ≤ x5.length then ((if decide ((x5.getD (0 + x12.toNat) 0) = x4) then some true else (if 0 ≤ x12 ∧ x12 < (p0.o.length : Int) then (impl_Colouring_at p0.x (p0.o.getD x12.toNat 0) (p0.o.getD ((p1n : Nat) : Int).toNat 0)).bind fun r17 => (impl_Colouring_at p0.y (x5.getD (0 + x12.toNat) 0) x4).bind fun r18 => some (!decide (r17 = r18)) else none)) : Option (Bool)).bind fun s19 => (if s19 then (some false).bind fun rr => some (.inr rr) else some (.inl ())) else none) : Option (Sum (Unit) (Bool))).bind fun os21 => (match os21 with | .inl s21 => impl_tracer_all_on_renumbering_c1_l1 p0 p1n x4 x5 k1 x11 (w64 (x12 + 1)) | .inr rr => some rr) else some x11)
def impl_tracer_all_on_renumbering_c1_l0 (k : Nat) (self : Tra → (List Int) → Nat → (List Int) → Option (Bool × List Int × List Int)) (p0 : Tra) (p1n : Nat) : Nat → Int → (List Int) → (List Int) → Option (Sum (List Int × List Int) (Bool × List Int × List Int))
 | 0, _, _, _ => none
 | k0 + 1, x4, x5, x6 => (if decide (x4 < p0.y.p) then ((if 0 ≤ (p0.o.getD ((p1n : Nat) : Int).toNat 0) ∧ (p0.o.getD ((p1n : Nat) : Int).toNat 0) < 17 then (if 0 ≤ x4 ∧ x4 < 17 then (if !(p0.get ((p0.o.getD ((p1n : Nat) : Int).toNat 0).toNat * 17 + x4.toNat)) then some (.inl (x5, x6)) else (impl_tracer_all_on_renumbering_c1_l1 p0 p1n x4 x5 k true 0 : Option (Bool)).bind fun s22 => ((if s22 then (if 0 + p1n + ([x4]).length ≤ x5.length ∧ 1 ≤ ([x4]).length then (self p0 (splicedL x5 (0 + p1n) (([x4]).length) ([x4])) (p1n + ([x4]).length) x6).bind fun r25 => some (!r25.1, r25.2.1, r25.2.2) else none) else some (false, x5, x6)) : Option (Bool × List Int × List Int)).bind fun s26 => (if s26.1 then (some (.inr (false, s26.2.1, s26.2.2))).bind fun rr => some (.inr rr) else some (.inl (s26.2.1, s26.2.2)))) else none) else none) : Option (Sum (List Int × List Int) (Sum (List Int × List Int) (Bool × List Int × List Int)))).bind fun os28 => (match os28 with | .inl s28 => impl_tracer_all_on_renumbering_c1_l0 k self p0 p1n k0 (w64 (x4 + 1)) s28.1 s28.2 | .inr rr => some rr) else some (.inl (x5, x6)))
def impl_tracer_all_on_renumbering_c1_body (self : Tra → (List Int) → Nat → (List Int) → Option (Bool × List Int × List Int)) (k : Nat) (p0 : Tra) (p1 : List Int) (p1n : Nat) (p2_0 : List Int) : Option (Bool × List Int × List Int) :=
 (if decide (((p1n : Nat) : Int) = (p0.o.length : Int)) then (impl_Colouring_renumbering_c1 p1 p1n p2_0).bind fun r2 => some (r2.1, r2.2.1, r2.2.2) else (if 0 ≤ ((p1n : Nat) : Int) ∧ ((p1n : Nat) : Int) < (p0.o.length : Int) then (impl_tracer_all_on_renumbering_c1_l0 k self p0 p1n k 0 p1 p2_0 : Option (Sum (List Int × List Int) (Bool × List Int × List Int))).bind fun os29 => (match os29 with | .inl s29 => some (true, s29.1, s29.2) | .inr rr => some rr) else none))
def impl_tracer_all_on_renumbering_c1 : Nat → Tra → (List Int) → Nat → (List Int) → Option (Bool × List Int × List Int)
 | 0, _, _, _, _ => none
 | k + 1, p0, p1, p1n, p2_0 => impl_tracer_all_on_renumbering_c1_body (impl_tracer_all_on_renumbering_c1 k) k p0 p1 p1n p2_0
set_option maxRecDepth 100000 in
theorem impl_tracer_all_on_renumbering_c1_ac (k : Nat) (p0 : Tra) (p1 : List Int) (p1n : Nat) (p2_0 : List Int) (r : Bool × List Int × List Int) (h : impl_tracer_all_on_renumbering_c1 k p0 p1 p1n p2_0 = some r) : AC Try.prog 88 [.d (.pv (traD p0) 0), .part 0 0 0 p1n, .clo 67 [.ptr 1 0]] [.vec 0 (intsD p1), .ref (.vec 2 0), .vec 0 (intsD p2_0)] (fun res H' => res = [bV r.1] ∧ H' = [.vec 0 (intsD r.2.1), .ref (.vec 2 1), .vec 1 (intsD r.2.2)]) := by
 induction k generalizing p0 p1 p1n p2_0 r with
 | zero => simp [impl_tracer_all_on_renumbering_c1] at h
 | succ k ih =>
  rw [impl_tracer_all_on_renumbering_c1] at h
  obtain ⟨self, hself, hk⟩ : ∃ self : Tra → (List Int) → Nat → (List Int) → Option (Bool × List Int × List Int), (∀ (p0 : Tra) (p1 : List Int) (p1n : Nat) (p2_0 : List Int) (r : Bool × List Int × List Int), self p0 p1 p1n p2_0 = some r → AC Try.prog 88 [.d (.pv (traD p0) 0), .part 0 0 0 p1n, .clo 67 [.ptr 1 0]] [.vec 0 (intsD p1), .ref (.vec 2 0), .vec 0 (intsD p2_0)] (fun res H' => res = [bV r.1] ∧ H' = [.vec 0 (intsD r.2.1), .ref (.vec 2 1), .vec 1 (intsD r.2.2)])) ∧ impl_tracer_all_on_renumbering_c1 k = self := ⟨impl_tracer_all_on_renumbering_c1 k, fun p0 p1 p1n p2_0 r h => ih p0 p1 p1n p2_0 r h, rfl⟩
  rw [hk] at h
  clear ih hk
  refine AC_of_body true Try.func88 rfl Try.ntmps88 (rvs := [.tmp 6]) rfl rfl (fun G hG => ?_)
  have hm : G.H.length = 3 := by rw [hG]; rfl
  have hz : zeroG G.H = true := by rw [hG]; rfl
  refine ACode_weak (Weak_bump 1 2 _ rfl rfl _ rfl) ?_
  unfold impl_tracer_all_on_renumbering_c1_body at h
  refine kR ?_
  refine kN 1 rfl ?_
  refine kR ?_
  refine kM 1 rfl ?_
  refine AOps_q 14 _ rfl rfl rfl (QOp_len_part _ _ _ _ _ _ _ _ _ _ rfl rfl rfl rfl Try.underlying25 rfl rfl rfl) ?_
  refine kN 1 rfl ?_
  refine ACode_seq ?_
  refine kR ?_
  refine kM 2 rfl ?_
  refine AOps_q 17 _ rfl rfl rfl (QOp_nilCheck_pv _ _ _ rfl rfl) ?_
  refine AOps_q 18 _ rfl rfl rfl (QOp_fieldAddr_pv _ _ _ _ _ 2 _ _ rfl Try.underlying110 rfl _ Try.sizeOf25 rfl rfl) ?_
  refine AOps_q 19 _ rfl rfl rfl (QOp_load_pv _ _ _ _ _ rfl Try.isAgg25 rfl rfl) ?_
  refine AOps_q 20 _ rfl rfl rfl (QOp_len_sl _ _ _ _ _ _ _ (intsD_length _) rfl rfl rfl rfl Try.underlying25 rfl) ?_
  refine AOps_q 21 _ rfl rfl rfl (QOp_eql _ _ _ _ _ _ _ rfl rfl rfl) ?_
  refine AOps_nil ?_
  refine kI h rfl (fun h _ => ?_) (fun h _ => ?_)
  ·refine kR ?_
   refine kM 2 rfl ?_
   obtain ⟨r2, hr2, h⟩ := bindO h
   refine kC [0, 1, 2] 24 (bV r2.1) [.vec 0 (intsD r2.2.1), .ref (.vec 2 2), .vec 2 (intsD r2.2.2)] rfl Try.call67 rfl rfl (impl_Colouring_renumbering_c1_ac p1 p1n p2_0 _ hr2) rfl ?_
   refine kN 1 rfl ?_
   refine ACode_ret ?_
   cases h
   exact ⟨_, _, Weak_reset 3 hm hz [6] _ _ rfl rfl, _, _, [], _, (.cons (ResV_tmp _ _ rfl) .nil), rfl, rfl, rfl, rfl, rfl⟩
  refine ACode_skip ?_
  refine kR ?_
  refine kM 1 rfl ?_
  refine AOps_q 26 _ rfl rfl rfl (QOp_nilCheck_pv _ _ _ rfl rfl) ?_
  refine AOps_q 27 _ rfl rfl rfl (QOp_fieldAddr_pv _ _ _ _ _ 2 _ _ rfl Try.underlying110 rfl _ Try.sizeOf25 rfl rfl) ?_
  refine AOps_q 28 _ rfl rfl rfl (QOp_load_pv _ _ _ _ _ rfl Try.isAgg25 rfl rfl) ?_
  refine kM 1 rfl ?_
  obtain ⟨hc3, h⟩ := guardO h
  refine AOps_q 30 _ rfl rfl rfl (QOp_indexAddr_sl _ _ _ _ _ _ _ _ rfl Try.underlying25 Try.sizeOf2 hc3.1 (by rw [intsD_length]; exact hc3.2) rfl rfl) ?_
  refine AOps_q 31 _ rfl rfl rfl (QOp_load_pv _ _ _ _ _ rfl Try.isAgg2 rfl (intsD_get _ _ 0 (by omega))) ?_
  refine kN 1 rfl ?_
  refine kO (fun s29 => []) (fun s29 => [.vec 0 (intsD s29.1), .ref (.vec 2 1), .vec 1 (intsD s29.2)]) h (fun os29 h hks29 => ?_) (fun s29 h => ?_)
  ·refine kR ?_
   refine kM 1 rfl ?_
   refine AOps_q 33 _ rfl rfl rfl (QOp_nilCheck_pv _ _ _ rfl rfl) ?_
   refine AOps_q 34 _ rfl rfl rfl (QOp_fieldAddr_pv _ _ _ _ _ 1 _ _ rfl Try.underlying110 rfl _ Try.sizeOf73 rfl rfl) ?_
   refine AOps_q 35 _ rfl rfl rfl (QOp_load_pv _ _ _ _ _ rfl Try.isAgg73 rfl rfl) ?_
   refine AOps_q 36 _ rfl rfl rfl (QOp_nilCheck_pv _ _ _ rfl rfl) ?_
   refine AOps_q 37 _ rfl rfl rfl (QOp_fieldAddr_pv _ _ _ _ _ 0 _ _ rfl Try.underlying29 rfl _ Try.sizeOf2 rfl rfl) ?_
   refine AOps_q 38 _ rfl rfl rfl (QOp_load_pv _ _ _ _ _ rfl Try.isAgg2 rfl rfl) ?_
   refine kN 1 rfl ?_
   refine ACode_block ?_
   refine ACode_loopW (fun k0 E H => ∃ (x4 : Int) (x5 : List Int) (x6 : List Int), E = [(0, .d (.pv (traD p0) 0)), (1, .part 0 0 0 p1n), (2, .clo 67 [.ptr 1 0]), (8, iV (p0.o.getD ((p1n : Nat) : Int).toNat 0)), (38, iV p0.y.p), (39, iV x4)] ∧ H = [.vec 0 (intsD x5), .ref (.vec 2 1), .vec 1 (intsD x6)] ∧ impl_tracer_all_on_renumbering_c1_l0 k self p0 p1n k0 x4 x5 x6 = some os29) k _ _ (Weak_keep 3 hm [0, 1, 2, 8, 38, 39] [] _ _ rfl rfl rfl) ⟨_, _, _, rfl, rfl, h⟩ ?_
   clear h
   rintro k0 E H ⟨x4, x5, x6, rfl, rfl, h⟩
   cases k0 with
   | zero => cases (show (none : Option (Sum (List Int × List Int) (Bool × List Int × List Int))) = some _ from h)
   | succ k0 =>
    rw [impl_tracer_all_on_renumbering_c1_l0] at h
    refine kR ?_
    refine AOps_q 40 _ rfl rfl rfl (QOp_lss _ _ _ _ _ _ _ rfl rfl rfl) ?_
    refine AOps_nil ?_
    refine ACode_seq ?_
    refine kI h rfl (fun h _ => ?_) (fun h _ => ?_)
    ·refine ACode_skip ?_
     refine kO (fun s28 => [(0, .d (.pv (traD p0) 0)), (1, .part 0 0 0 p1n), (2, .clo 67 [.ptr 1 0]), (8, iV (p0.o.getD ((p1n : Nat) : Int).toNat 0)), (38, iV p0.y.p), (39, iV x4)]) (fun s28 => [.vec 0 (intsD s28.1), .ref (.vec 2 1), .vec 1 (intsD s28.2)]) h (fun os28 h hks28 => ?_) (fun s28 h => ?_)
     ·refine ACode_block ?_
      refine kR ?_
      refine kN 2 rfl ?_
      refine ACode_seq ?_
      refine kR ?_
      refine kM 3 rfl ?_
      refine AOps_q 45 _ rfl rfl rfl (QOp_nilCheck_pv _ _ _ rfl rfl) ?_
      refine AOps_q 46 _ rfl rfl rfl (QOp_fieldAddr_pv _ _ _ _ _ 3 _ _ rfl Try.underlying110 rfl _ Try.sizeOf108 rfl rfl) ?_
      obtain ⟨hc8, h⟩ := guardO h
      refine AOps_q 47 _ rfl rfl rfl (QOp_indexAddrM_pv _ _ _ _ _ _ _ _ _ _ rfl Try.underlying108 Try.sizeOf107 hc8.1 hc8.2 rfl rfl) ?_
      obtain ⟨hc9, h⟩ := guardO h
      refine AOps_q 48 _ rfl rfl rfl (QOp_indexAddrA_pv _ _ _ _ _ _ _ _ _ rfl Try.underlying107 Try.sizeOf4 hc9.1 hc9.2 rfl rfl) ?_
      refine AOps_q 49 _ rfl rfl rfl (QOp_load_pv _ _ _ _ _ rfl Try.isAgg4 rfl (traD_get2 _ _ _ (by omega))) ?_
      refine AOps_q 50 _ rfl rfl rfl (QOp_not _ _ _ rfl rfl) ?_
      refine AOps_nil ?_
      refine kI h rfl (fun h _ => ?_) (fun h _ => ?_)
      ·refine ACode_exit ?_
       cases h
       exact ⟨_, rfl, Weak_keep 3 hm [0, 1, 2, 8, 38, 39] [] _ _ rfl rfl rfl⟩
      refine ACode_skip ?_
      refine kR ?_
      refine kN 1 rfl ?_
      refine kB (fun s22 => [(0, .d (.pv (traD p0) 0)), (1, .part 0 0 0 p1n), (2, .clo 67 [.ptr 1 0]), (8, iV (p0.o.getD ((p1n : Nat) : Int).toNat 0)), (9, iV x4), (10, bV s22), (38, iV p0.y.p), (39, iV x4)]) (fun s22 => [.vec 0 (intsD x5), .ref (.vec 2 1), .vec 1 (intsD x6)]) h (fun s22 h => ?_) (fun s22 h => ?_)
      ·refine kR ?_
       refine kM 1 rfl ?_
       refine AOps_q 52 _ rfl rfl rfl (QOp_len_part _ _ _ _ _ _ _ _ _ _ rfl rfl rfl rfl Try.underlying25 rfl rfl rfl) ?_
       refine kN 1 rfl ?_
       refine ACode_block ?_
       refine ACode_loopW (fun k1 E H => ∃ (x11 : Bool) (x12 : Int), E = [(0, .d (.pv (traD p0) 0)), (1, .part 0 0 0 p1n), (2, .clo 67 [.ptr 1 0]), (8, iV (p0.o.getD ((p1n : Nat) : Int).toNat 0)), (9, iV x4), (10, bV x11), (38, iV p0.y.p), (39, iV x4), (51, .part 0 0 0 p1n), (52, iV ((p1n : Nat) : Int)), (53, iV x12)] ∧ H = [.vec 0 (intsD x5), .ref (.vec 2 1), .vec 1 (intsD x6)] ∧ impl_tracer_all_on_renumbering_c1_l1 p0 p1n x4 x5 k1 x11 x12 = some s22) k _ _ (Weak_keep 3 hm [0, 1, 2, 8, 9, 10, 38, 39, 51, 52, 53] [] _ _ rfl rfl rfl) ⟨_, _, rfl, rfl, h⟩ ?_
       clear h
       rintro k1 E H ⟨x11, x12, rfl, rfl, h⟩
       cases k1 with
       | zero => cases (show (none : Option (Bool)) = some _ from h)
       | succ k1 =>
        rw [impl_tracer_all_on_renumbering_c1_l1] at h
        refine kR ?_
        refine AOps_q 54 _ rfl rfl rfl (QOp_lss _ _ _ _ _ _ _ rfl rfl rfl) ?_
        refine AOps_nil ?_
        refine ACode_seq ?_
        refine kI h rfl (fun h _ => ?_) (fun h _ => ?_)
        ·refine ACode_skip ?_
         refine kO (fun s21 => [(0, .d (.pv (traD p0) 0)), (1, .part 0 0 0 p1n), (2, .clo 67 [.ptr 1 0]), (8, iV (p0.o.getD ((p1n : Nat) : Int).toNat 0)), (9, iV x4), (10, bV x11), (38, iV p0.y.p), (39, iV x4), (51, .part 0 0 0 p1n), (52, iV ((p1n : Nat) : Int)), (53, iV x12)]) (fun s21 => [.vec 0 (intsD x5), .ref (.vec 2 1), .vec 1 (intsD x6)]) h (fun os21 h hks21 => ?_) (fun s21 h => ?_)
         ·refine ACode_block ?_
          refine kR ?_
          refine kM 1 rfl ?_
          obtain ⟨hc14, h⟩ := guardO h
          refine AOps_q 56 _ rfl rfl rfl (QOp_indexAddr_part _ _ _ _ _ _ _ _ _ _ _ _ rfl Try.underlying25 Try.sizeOf2 hc14.1 hc14.2.1 rfl rfl rfl rfl) ?_
          refine AOps_q 57 _ rfl rfl rfl (QOp_load_eptr _ _ _ _ _ _ _ rfl Try.isAgg2 rfl rfl (intsD_get _ _ 0 (by omega))) ?_
          refine kN 2 rfl ?_
          refine kB (fun s19 => [(0, .d (.pv (traD p0) 0)), (1, .part 0 0 0 p1n), (2, .clo 67 [.ptr 1 0]), (8, iV (p0.o.getD ((p1n : Nat) : Int).toNat 0)), (9, iV x4), (10, bV x11), (38, iV p0.y.p), (39, iV x4), (51, .part 0 0 0 p1n), (52, iV ((p1n : Nat) : Int)), (53, iV x12), (83, bV s19)]) (fun s19 => [.vec 0 (intsD x5), .ref (.vec 2 1), .vec 1 (intsD x6)]) h (fun s19 h => ?_) (fun s19 h => ?_)
          ·refine (ACode_quiet mixed (by kernel_rfl) ?_)
           refine kQ 2 rfl ?_
           refine AQ_q 60 _ rfl rfl rfl (QOp_eql _ _ _ _ _ _ _ rfl rfl rfl) ?_
           refine kQ 1 rfl ?_
           refine AQ_case 61 _ rfl (fun hb15 => ?_) (fun hb15 => ?_)
           ·have h := iteT hb15 h
            refine AQ_skip 62 rfl rfl rfl ?_
            refine AQ_skip 63 rfl rfl rfl ?_
            refine AQ_skip 64 rfl rfl rfl ?_
            refine AQ_skip 65 rfl rfl rfl ?_
            refine AQ_skip 66 rfl rfl rfl ?_
            refine AQ_skip 67 rfl rfl rfl ?_
            refine AQ_skip 68 rfl rfl rfl ?_
            refine AQ_skip 69 rfl rfl rfl ?_
            refine AQ_skip 70 rfl rfl rfl ?_
            refine AQ_skip 71 rfl rfl rfl ?_
            refine AQ_skip 72 rfl rfl rfl ?_
            refine AQ_skip 73 rfl rfl rfl ?_
            refine AQ_skip 74 rfl rfl rfl ?_
            refine AQ_skip 75 rfl rfl rfl ?_
            refine AQ_skip 76 rfl rfl rfl ?_
            refine AQ_skip 77 rfl rfl rfl ?_
            refine AQ_skip 78 rfl rfl rfl ?_
            refine AQ_skip 79 rfl rfl rfl ?_
            refine AQ_skip 80 rfl rfl rfl ?_
            refine AQ_skip 81 rfl rfl rfl ?_
            refine AQ_skip 82 rfl rfl rfl ?_
            refine kQ 1 rfl ?_
            refine AQ_nil ?_
            cases h
            exact Weak_keep 3 hm [0, 1, 2, 8, 9, 10, 38, 39, 51, 52, 53, 83] [] _ _ rfl rfl rfl
           have h := iteF hb15 h
           refine kQ 1 rfl ?_
           refine AQ_q 63 _ rfl rfl rfl (QOp_nilCheck_pv _ _ _ rfl rfl) ?_
           refine AQ_q 64 _ rfl rfl rfl (QOp_fieldAddr_pv _ _ _ _ _ 0 _ _ rfl Try.underlying110 rfl _ Try.sizeOf73 rfl rfl) ?_
           refine AQ_q 65 _ rfl rfl rfl (QOp_load_pv _ _ _ _ _ rfl Try.isAgg73 rfl rfl) ?_
           refine kQ 1 rfl ?_
           refine AQ_q 67 _ rfl rfl rfl (QOp_nilCheck_pv _ _ _ rfl rfl) ?_
           refine AQ_q 68 _ rfl rfl rfl (QOp_fieldAddr_pv _ _ _ _ _ 2 _ _ rfl Try.underlying110 rfl _ Try.sizeOf25 rfl rfl) ?_
           refine AQ_q 69 _ rfl rfl rfl (QOp_load_pv _ _ _ _ _ rfl Try.isAgg25 rfl rfl) ?_
           refine kQ 1 rfl ?_
           obtain ⟨hc16, h⟩ := guardO h
           refine AQ_q 71 _ rfl rfl rfl (QOp_indexAddr_sl _ _ _ _ _ _ _ _ rfl Try.underlying25 Try.sizeOf2 hc16.1 (by rw [intsD_length]; exact hc16.2) rfl rfl) ?_
           refine AQ_q 72 _ rfl rfl rfl (QOp_load_pv _ _ _ _ _ rfl Try.isAgg2 rfl (intsD_get _ _ 0 (by omega))) ?_
           refine kQ 1 rfl ?_
           obtain ⟨r17, hr17, h⟩ := bindO h
           refine AQ_call 74 _ _ _ _ _ _ _ _ _ rfl rfl rfl rfl rfl rfl rfl Try.call61 rfl rfl rfl (impl_Colouring_at_ac p0.x (p0.o.getD x12.toNat 0) (p0.o.getD ((p1n : Nat) : Int).toNat 0) _ hr17) ?_
           refine kQ 1 rfl ?_
           refine AQ_q 76 _ rfl rfl rfl (QOp_nilCheck_pv _ _ _ rfl rfl) ?_
           refine AQ_q 77 _ rfl rfl rfl (QOp_fieldAddr_pv _ _ _ _ _ 1 _ _ rfl Try.underlying110 rfl _ Try.sizeOf73 rfl rfl) ?_
           refine AQ_q 78 _ rfl rfl rfl (QOp_load_pv _ _ _ _ _ rfl Try.isAgg73 rfl rfl) ?_
           refine kQ 2 rfl ?_
           obtain ⟨r18, hr18, h⟩ := bindO h
           refine AQ_call 81 _ _ _ _ _ _ _ _ _ rfl rfl rfl rfl rfl rfl rfl Try.call61 rfl rfl rfl (impl_Colouring_at_ac p0.y (x5.getD (0 + x12.toNat) 0) x4 _ hr18) ?_
           refine AQ_q 82 _ rfl rfl rfl (QOp_neq _ _ _ _ _ _ _ rfl rfl rfl) ?_
           refine kQ 1 rfl ?_
           refine AQ_nil ?_
           cases h
           exact Weak_keep 3 hm [0, 1, 2, 8, 9, 10, 38, 39, 51, 52, 53, 83] [] _ _ rfl rfl rfl
          refine kI h rfl (fun h _ => ?_) (fun h _ => ?_)
          ·refine kR ?_
           refine kN 1 rfl ?_
           refine ACode_exit ?_
           obtain ⟨rr, hz30, h2⟩ := bindO h
           obtain rfl := Option.some.inj h2
           obtain rfl := Option.some.inj (show some rr = some _ from hks21)
           have h := hz30
           cases h
           exact Weak_keep 3 hm [0, 1, 2, 8, 9, 10, 38, 39] [] _ _ rfl rfl rfl
          refine ACode_skip ?_
          cases h
          exact ⟨_, rfl, Weak_keep 3 hm [0, 1, 2, 8, 9, 10, 38, 39, 51, 52, 53] [] _ _ rfl rfl rfl⟩
         refine (ACode_region ?_)
         refine AOps_q 84 _ rfl rfl rfl (QOp_add _ _ _ _ _ _ _ rfl rfl rfl) ?_
         refine kN 1 rfl ?_
         exact ⟨k1, _, _, Nat.lt_succ_self _, Weak_keep 3 hm [0, 1, 2, 8, 9, 10, 38, 39, 51, 52, 53] [] _ _ rfl rfl rfl, _, _, rfl, rfl, h⟩
        refine ACode_exit ?_
        cases h
        exact Weak_keep 3 hm [0, 1, 2, 8, 9, 10, 38, 39] [] _ _ rfl rfl rfl
      refine kB (fun s26 => [(0, .d (.pv (traD p0) 0)), (1, .part 0 0 0 p1n), (2, .clo 67 [.ptr 1 0]), (8, iV (p0.o.getD ((p1n : Nat) : Int).toNat 0)), (38, iV p0.y.p), (39, iV x4), (95, bV s26.1)]) (fun s26 => [.vec 0 (intsD s26.2.1), .ref (.vec 2 1), .vec 1 (intsD s26.2.2)]) h (fun s26 h => ?_) (fun s26 h => ?_)
      ·refine (ACode_region ?_)
       refine kM 2 rfl ?_
       refine AOps_case 86 _ rfl (fun hb23 => ?_) (fun hb23 => ?_)
       ·have h := iteT hb23 h
        refine kM 3 rfl ?_
        refine AOps_buildSlice 90 _ _ _ [_] (intsD ([x4])) _ rfl rfl rfl rfl rfl (by decide) Try.underlying25 Try.sizeOf2 (zero_of Try.typeInfo2 rfl) rfl rfl (intsD_one _) ?_
        obtain ⟨hc24, h⟩ := guardO h
        refine AOps_append_part 91 _ _ _ _ _ 0 0 0 p1n (p1n + ([x4]).length) _ (intsD x5) (intsD ([x4])) _ rfl rfl rfl rfl rfl rfl rfl Try.underlying25 Try.type2 rfl rfl rfl rfl rfl (intsD_one _) (by rw [intsD_length]; exact hc24.2) (by rw [intsD_length, intsD_length]; exact hc24.1) (by rw [intsD_length]) ?_
        rw [intsD_length, intsD_spl]
        refine kM 1 rfl ?_
        obtain ⟨r25, hr25, h⟩ := bindO h
        refine kC [0, 1, 2] 93 (bV r25.1) [.vec 0 (intsD r25.2.1), .ref (.vec 2 2), .vec 2 (intsD r25.2.2), .vec 0 (intsD ([x4]))] rfl Try.call88 rfl rfl (hself p0 (splicedL x5 (0 + p1n) (([x4]).length) ([x4])) (p1n + ([x4]).length) x6 _ hr25) rfl ?_
        refine AOps_q 94 _ rfl rfl rfl (QOp_not _ _ _ rfl rfl) ?_
        refine kN 1 rfl ?_
        cases h
        exact Weak_trans (Weak_keep 3 hm [0, 1, 2, 8, 38, 39, 95] [] _ _ rfl rfl rfl) (Weak_reset 3 hm hz [0, 1, 2, 8, 38, 39, 95] _ _ rfl rfl)
       have h := iteF hb23 h
       refine AOps_skip 87 rfl rfl rfl ?_
       refine AOps_skip 88 rfl rfl rfl ?_
       refine AOps_skip 89 rfl rfl rfl ?_
       refine AOps_skip 90 rfl rfl rfl ?_
       refine AOps_skip 91 rfl rfl rfl ?_
       refine AOps_skip 92 rfl rfl rfl ?_
       refine AOps_skip 93 rfl rfl rfl ?_
       refine AOps_skip 94 rfl rfl rfl ?_
       refine kN 1 rfl ?_
       cases h
       exact Weak_keep 3 hm [0, 1, 2, 8, 38, 39, 95] [] _ _ rfl rfl rfl
      refine kI h rfl (fun h _ => ?_) (fun h _ => ?_)
      ·refine kR ?_
       refine kN 1 rfl ?_
       refine ACode_ret ?_
       obtain ⟨rr, hz31, h2⟩ := bindO h
       obtain rfl := Option.some.inj h2
       obtain rfl := Option.some.inj (show some rr = some _ from hks28)
       have h := hz31
       cases h
       have h := hks29
       cases h
       exact ⟨_, _, fun r a w h => ⟨r, h⟩, _, _, [], _, (.cons (ResV_tmp _ _ rfl) .nil), rfl, rfl, rfl, rfl, rfl⟩
      refine ACode_skip ?_
      cases h
      exact ⟨_, rfl, Weak_keep 3 hm [0, 1, 2, 8, 38, 39] [] _ _ rfl rfl rfl⟩
     refine (ACode_region ?_)
     refine AOps_q 96 _ rfl rfl rfl (QOp_add _ _ _ _ _ _ _ rfl rfl rfl) ?_
     refine kN 1 rfl ?_
     exact ⟨k0, _, _, Nat.lt_succ_self _, Weak_keep 3 hm [0, 1, 2, 8, 38, 39] [] _ _ rfl rfl rfl, _, _, _, rfl, rfl, h⟩
    refine ACode_exit ?_
    cases h
    exact ⟨_, rfl, Weak_keep 3 hm [] [] _ _ rfl rfl rfl⟩
  refine kR ?_
  refine kN 1 rfl ?_
  refine ACode_ret ?_
  cases h
  exact ⟨_, _, fun r a w h => ⟨r, h⟩, _, _, [], _, (.cons (ResV_tmp _ _ rfl) .nil), rfl, rfl, rfl, rfl, rfl⟩

end Go.Proofs.Ytjcgphgipleccaa
