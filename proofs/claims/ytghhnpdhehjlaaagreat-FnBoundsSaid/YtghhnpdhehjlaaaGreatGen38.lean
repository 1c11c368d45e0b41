/- Plain functions of the program and that the program computes them: printed by the own tool gen.py. No conditions. -/
import Derived.Test.YtghhnpdhehjlaaaGreatGen38b
set_option linter.unusedVariables false
set_option linter.unusedSimpArgs false
namespace Go.Proofs.YtghhnpdhehjlaaaGreat
open Go Go.RowKit Ab

-- loop.example/g01362/spec.ProductColouring
def spec_ProductColouring_l1 (k : Nat) (p0 : Col) (p1 : Col) (x10 : Int) : Nat → Int → Col → Option (Col)
 | 0, _, _ => none
 | k1 + 1, x13, x14 => (if decide (x13 < x10) then ((if p1.p ≠ 0 then (if p1.p ≠ 0 then (if !decide (w64 (x13.tdiv p1.p) = w64 (x10.tdiv p1.p)) then (if p1.p ≠ 0 then (if p1.p ≠ 0 then (spec_l01At p0 (w64 (x13.tdiv p1.p)) (w64 (x10.tdiv p1.p))).bind fun r22 => (if 0 ≤ (spec_l01Edge x13 x10) ∧ (spec_l01Edge x13 x10) < 136 then some (x14.set ((spec_l01Edge x13 x10).toNat) (toByte r22)) else none) else none) else none) else (if p1.p ≠ 0 then (if p1.p ≠ 0 then (spec_l01At p1 (x13.tmod p1.p) (x10.tmod p1.p)).bind fun r27 => (if 0 ≤ (spec_l01Edge x13 x10) ∧ (spec_l01Edge x13 x10) < 136 then some (x14.set ((spec_l01Edge x13 x10).toNat) (toByte (w64 (p0.k + r27)))) else none) else none) else none)) else none) else none) : Option (Col)).bind fun s29 => spec_ProductColouring_l1 k p0 p1 x10 k1 (w64 (x13 + 1)) s29 else some x14)
def spec_ProductColouring_l0 (k : Nat) (p0 : Col) (p1 : Col) : Nat → Int → Col → Option (Col)
 | 0, _, _ => none
 | k0 + 1, x10, x11 => (if decide (x10 < x11.p) then (spec_ProductColouring_l1 k p0 p1 x10 k 0 x11 : Option (Col)).bind fun s30 => spec_ProductColouring_l0 k p0 p1 k0 (w64 (x10 + 1)) s30 else some x11)
def spec_ProductColouring (k : Nat) (p0 : Col) (p1 : Col) : Option (Col × Int) :=
 (((spec_l01Is k p0).bind fun r1 => (if !r1 then some true else (spec_l01Is k p1).bind fun r3 => some (!r3)) : Option (Bool)).bind fun s4 => (if s4 then some (.inr ((⟨0, 0, B136.zero⟩ : Col), 1)) else letO (if decide (17 < w64 (p0.p * p1.p)) then true else decide (4 < w64 (p0.k + p1.k))) fun (s7 : Bool) => (if s7 then some (.inr ((⟨0, 0, B136.zero⟩ : Col), 3)) else some (.inl ()))) : Option (Sum (Unit) (Col × Int))).bind fun os9 => (match os9 with | .inl s9 => (spec_ProductColouring_l0 k p0 p1 k 1 (⟨w64 (p0.p * p1.p), w64 (p0.k + p1.k), B136.zero⟩ : Col) : Option (Col)).bind fun s31 => some (s31, 0) | .inr rr => some rr)
set_option maxRecDepth 100000 in
theorem spec_ProductColouring_ac (k : Nat) (p0 : Col) (p1 : Col) (r : Col × Int) (h : spec_ProductColouring k p0 p1 = some r) : AC Tryz.prog 30 [.d (.agg (colD p0)), .d (.agg (colD p1))] [] (fun res H' => res = [.d (.agg (colD r.1)), iV r.2] ∧ H' = []) := by
 refine AC_of_body true Tryz.func30 rfl Tryz.ntmps30 (rvs := [.cell 4 34, .tmp 5]) rfl rfl (fun G hG => ?_)
 have hm : G.H.length = 0 := by rw [hG]; rfl
 have hz : zeroG G.H = true := by rw [hG]; rfl
 unfold spec_ProductColouring at h
 refine kR ?_
 refine AOps_boxI 2 _ _ (.agg (colD p0)) (colD p0) rfl (colD_one _) rfl rfl rfl rfl rfl ?_
 refine AOps_boxI 3 _ _ (.agg (colD p1)) (colD p1) rfl (colD_one _) rfl rfl rfl rfl rfl ?_
 refine AOps_alloc 4 _ _ (colD Col.zero) (zero_of Tryz.typeInfo34 rfl) (by rfl) rfl rfl rfl rfl ?_
 refine kN 1 rfl ?_
 refine kO (fun s9 => [(2, .d (.pv (colD p0) 0)), (3, .d (.pv (colD p1) 0)), (4, .ptr 0 0)]) (fun s9 => [.box (colD Col.zero)]) h (fun os9 h hks9 => ?_) (fun s9 h => ?_)
 ·refine ACode_block ?_
  refine kB (fun s4 => [(2, .d (.pv (colD p0) 0)), (3, .d (.pv (colD p1) 0)), (4, .ptr 0 0), (10, bV s4)]) (fun s4 => [.box (colD Col.zero)]) h (fun s4 h => ?_) (fun s4 h => ?_)
  ·refine (ACode_region ?_)
   refine AOps_q 11 _ rfl rfl rfl (QOp_loadN_pv _ _ _ _ _ _ rfl Tryz.isAgg34 Tryz.sizeOf34 rfl (colD_all _) (colD_length _)) ?_
   obtain ⟨r1, hr1, h⟩ := bindO h
   refine kC [] 12 (bV r1) [.box (colD Col.zero)] rfl Tryz.call77 rfl rfl (spec_l01Is_ac k p0 _ hr1) rfl ?_
   refine AOps_q 13 _ rfl rfl rfl (QOp_not _ _ _ rfl rfl) ?_
   refine kM 1 rfl ?_
   refine AOps_case 14 _ rfl (fun hb2 => ?_) (fun hb2 => ?_)
   ·have h := iteT hb2 h
    refine AOps_skip 15 rfl rfl rfl ?_
    refine AOps_skip 16 rfl rfl rfl ?_
    refine AOps_skip 17 rfl rfl rfl ?_
    refine kN 2 rfl ?_
    cases h
    exact Weak_keep 0 hm [2, 3, 4, 10] [0] _ _ rfl rfl rfl
   have h := iteF hb2 h
   refine AOps_q 15 _ rfl rfl rfl (QOp_loadN_pv _ _ _ _ _ _ rfl Tryz.isAgg34 Tryz.sizeOf34 rfl (colD_all _) (colD_length _)) ?_
   obtain ⟨r3, hr3, h⟩ := bindO h
   refine kC [] 16 (bV r3) [.box (colD Col.zero)] rfl Tryz.call77 rfl rfl (spec_l01Is_ac k p1 _ hr3) rfl ?_
   refine AOps_q 17 _ rfl rfl rfl (QOp_not _ _ _ rfl rfl) ?_
   refine kN 2 rfl ?_
   cases h
   exact Weak_keep 0 hm [2, 3, 4, 10] [0] _ _ rfl rfl rfl
  refine kI h rfl (fun h _ => ?_) (fun h _ => ?_)
  ·refine kR ?_
   refine AOps_q 19 _ rfl rfl rfl (QOp_build _ _ [] [] [] _ (colD Col.zero) (colD (⟨0, 0, B136.zero⟩ : Col)) [(0, 1), (1, 1), (2, 136)] rfl rfl Tryz.underlying34 (zero_of Tryz.typeInfo34 rfl) (fun w => by simp [Tryz.sizeOf2, Tryz.sizeOf2, Tryz.sizeOf32]) rfl (by rfl) (by rfl) (fun _ h => nomatch h)) ?_
   refine AOps_store _ _ _ _ _ _ (colD _) _ _ rfl rfl rfl rfl rfl rfl rfl (colD_one _) (by rw [colD_length]; exact Tryz.sizeOf34) (by rw [colD_length, colD_length]; decide) (colD_whole _ _) ?_
   refine kN 1 rfl ?_
   refine ACode_ret ?_
   cases h
   have h := hks9
   cases h
   exact ⟨_, _, fun r a w h => ⟨r, h⟩, _, _, [], _, (.cons (ResV_agg _ _ _ _ _ _ Tryz.isAgg34 Tryz.sizeOf34 rfl rfl (colD_take _) (colD_length _)) (.cons (ResV_tmp _ _ rfl) .nil)), rfl, rfl, rfl, rfl, rfl⟩
  refine kL (fun s7 => [(2, .d (.pv (colD p0) 0)), (3, .d (.pv (colD p1) 0)), (4, .ptr 0 0), (20, bV s7)]) (fun s7 => [.box (colD Col.zero)]) h (fun s7 h => ?_) (fun s7 h => ?_)
  ·refine (ACode_region ?_)
   refine AOps_q 21 _ rfl rfl rfl (QOp_fieldAddr_pv _ _ _ _ _ 0 _ _ rfl Tryz.underlying34 rfl _ Tryz.sizeOf2 rfl rfl) ?_
   refine AOps_q 22 _ rfl rfl rfl (QOp_load_pv _ _ _ _ _ rfl Tryz.isAgg2 rfl rfl) ?_
   refine AOps_q 23 _ rfl rfl rfl (QOp_fieldAddr_pv _ _ _ _ _ 0 _ _ rfl Tryz.underlying34 rfl _ Tryz.sizeOf2 rfl rfl) ?_
   refine AOps_q 24 _ rfl rfl rfl (QOp_load_pv _ _ _ _ _ rfl Tryz.isAgg2 rfl rfl) ?_
   refine AOps_q 25 _ rfl rfl rfl (QOp_mul _ _ _ _ _ _ _ rfl rfl rfl) ?_
   refine AOps_q 26 _ rfl rfl rfl (QOp_gtr _ _ _ _ _ _ _ rfl rfl rfl) ?_
   refine kM 1 rfl ?_
   refine AOps_case 27 _ rfl (fun hb6 => ?_) (fun hb6 => ?_)
   ·have h := iteT hb6 h
    refine AOps_skip 28 rfl rfl rfl ?_
    refine AOps_skip 29 rfl rfl rfl ?_
    refine AOps_skip 30 rfl rfl rfl ?_
    refine AOps_skip 31 rfl rfl rfl ?_
    refine AOps_skip 32 rfl rfl rfl ?_
    refine AOps_skip 33 rfl rfl rfl ?_
    refine kN 2 rfl ?_
    cases h
    exact Weak_keep 0 hm [2, 3, 4, 20] [0] _ _ rfl rfl rfl
   have h := iteF hb6 h
   refine AOps_q 28 _ rfl rfl rfl (QOp_fieldAddr_pv _ _ _ _ _ 1 _ _ rfl Tryz.underlying34 rfl _ Tryz.sizeOf2 rfl rfl) ?_
   refine AOps_q 29 _ rfl rfl rfl (QOp_load_pv _ _ _ _ _ rfl Tryz.isAgg2 rfl rfl) ?_
   refine AOps_q 30 _ rfl rfl rfl (QOp_fieldAddr_pv _ _ _ _ _ 1 _ _ rfl Tryz.underlying34 rfl _ Tryz.sizeOf2 rfl rfl) ?_
   refine AOps_q 31 _ rfl rfl rfl (QOp_load_pv _ _ _ _ _ rfl Tryz.isAgg2 rfl rfl) ?_
   refine AOps_q 32 _ rfl rfl rfl (QOp_add _ _ _ _ _ _ _ rfl rfl rfl) ?_
   refine AOps_q 33 _ rfl rfl rfl (QOp_gtr _ _ _ _ _ _ _ rfl rfl rfl) ?_
   refine kN 2 rfl ?_
   cases h
   exact Weak_keep 0 hm [2, 3, 4, 20] [0] _ _ rfl rfl rfl
  refine kI h rfl (fun h _ => ?_) (fun h _ => ?_)
  ·refine kR ?_
   refine AOps_q 35 _ rfl rfl rfl (QOp_build _ _ [] [] [] _ (colD Col.zero) (colD (⟨0, 0, B136.zero⟩ : Col)) [(0, 1), (1, 1), (2, 136)] rfl rfl Tryz.underlying34 (zero_of Tryz.typeInfo34 rfl) (fun w => by simp [Tryz.sizeOf2, Tryz.sizeOf2, Tryz.sizeOf32]) rfl (by rfl) (by rfl) (fun _ h => nomatch h)) ?_
   refine AOps_store _ _ _ _ _ _ (colD _) _ _ rfl rfl rfl rfl rfl rfl rfl (colD_one _) (by rw [colD_length]; exact Tryz.sizeOf34) (by rw [colD_length, colD_length]; decide) (colD_whole _ _) ?_
   refine kN 1 rfl ?_
   refine ACode_ret ?_
   cases h
   have h := hks9
   cases h
   exact ⟨_, _, fun r a w h => ⟨r, h⟩, _, _, [], _, (.cons (ResV_agg _ _ _ _ _ _ Tryz.isAgg34 Tryz.sizeOf34 rfl rfl (colD_take _) (colD_length _)) (.cons (ResV_tmp _ _ rfl) .nil)), rfl, rfl, rfl, rfl, rfl⟩
  refine ACode_skip ?_
  cases h
  exact ⟨_, rfl, Weak_keep 0 hm [2, 3, 4] [0] _ _ rfl rfl rfl⟩
 refine kR ?_
 refine AOps_q 36 _ rfl rfl rfl (QOp_fieldAddr_pv _ _ _ _ _ 0 _ _ rfl Tryz.underlying34 rfl _ Tryz.sizeOf2 rfl rfl) ?_
 refine AOps_q 37 _ rfl rfl rfl (QOp_load_pv _ _ _ _ _ rfl Tryz.isAgg2 rfl rfl) ?_
 refine kN 1 rfl ?_
 refine kR ?_
 refine AOps_q 38 _ rfl rfl rfl (QOp_fieldAddr_pv _ _ _ _ _ 0 _ _ rfl Tryz.underlying34 rfl _ Tryz.sizeOf2 rfl rfl) ?_
 refine AOps_q 39 _ rfl rfl rfl (QOp_load_pv _ _ _ _ _ rfl Tryz.isAgg2 rfl rfl) ?_
 refine kM 1 rfl ?_
 refine AOps_q 41 _ rfl rfl rfl (QOp_mul _ _ _ _ _ _ _ rfl rfl rfl) ?_
 refine AOps_q 42 _ rfl rfl rfl (QOp_fieldAddr_pv _ _ _ _ _ 1 _ _ rfl Tryz.underlying34 rfl _ Tryz.sizeOf2 rfl rfl) ?_
 refine AOps_q 43 _ rfl rfl rfl (QOp_load_pv _ _ _ _ _ rfl Tryz.isAgg2 rfl rfl) ?_
 refine AOps_q 44 _ rfl rfl rfl (QOp_fieldAddr_pv _ _ _ _ _ 1 _ _ rfl Tryz.underlying34 rfl _ Tryz.sizeOf2 rfl rfl) ?_
 refine AOps_q 45 _ rfl rfl rfl (QOp_load_pv _ _ _ _ _ rfl Tryz.isAgg2 rfl rfl) ?_
 refine AOps_q 46 _ rfl rfl rfl (QOp_add _ _ _ _ _ _ _ rfl rfl rfl) ?_
 refine AOps_q 47 _ rfl rfl rfl (QOp_build _ _ [_, _] [0, 1] [iD (w64 (p0.p * p1.p)), iD (w64 (p0.k + p1.k))] _ (colD Col.zero) (colD (⟨w64 (p0.p * p1.p), w64 (p0.k + p1.k), B136.zero⟩ : Col)) [(0, 1), (1, 1), (2, 136)] rfl rfl Tryz.underlying34 (zero_of Tryz.typeInfo34 rfl) (fun w => by simp [Tryz.sizeOf2, Tryz.sizeOf2, Tryz.sizeOf32]) rfl (by rfl) (by rfl) (allc (ok1 rfl) (allc (ok1 rfl) (fun _ h => nomatch h)))) ?_
 refine AOps_alloc 7 _ _ (colD Col.zero) (zero_of Tryz.typeInfo34 rfl) (by rfl) rfl rfl rfl rfl ?_
 refine AOps_store _ _ _ _ _ _ (colD _) _ _ rfl rfl rfl rfl rfl rfl rfl (colD_one _) (by rw [colD_length]; exact Tryz.sizeOf34) (by rw [colD_length, colD_length]; decide) (colD_whole _ _) ?_
 refine AOps_nil ?_
 refine kB (fun s31 => [(4, .ptr 0 0), (7, .ptr 1 0)]) (fun s31 => [.box (colD Col.zero), .box (colD s31)]) h (fun s31 h => ?_) (fun s31 h => ?_)
 ·refine kR ?_
  refine kN 1 rfl ?_
  refine ACode_block ?_
  refine ACode_loopW (fun k0 E H => ∃ (x10 : Int) (x11 : Col), E = [(2, .d (.pv (colD p0) 0)), (3, .d (.pv (colD p1) 0)), (4, .ptr 0 0), (6, iV p1.p), (7, .ptr 1 0), (8, iV x10)] ∧ H = [.box (colD Col.zero), .box (colD x11)] ∧ spec_ProductColouring_l0 k p0 p1 k0 x10 x11 = some s31) k _ _ (Weak_keep 0 hm [2, 3, 4, 6, 7, 8] [0, 1] _ _ rfl rfl rfl) ⟨_, _, rfl, rfl, h⟩ ?_
  clear h
  rintro k0 E H ⟨x10, x11, rfl, rfl, h⟩
  cases k0 with
  | zero => cases (show (none : Option (Col)) = some _ from h)
  | succ k0 =>
   rw [spec_ProductColouring_l0] at h
   refine ACode_seq ?_
   refine kR ?_
   refine kM 1 rfl ?_
   refine AOps_q 49 _ rfl rfl rfl (QOp_fieldAddr_ptr _ _ _ _ _ _ 0 _ _ rfl Tryz.underlying34 rfl _ Tryz.sizeOf2 rfl rfl rfl rfl) ?_
   refine AOps_q 50 _ rfl rfl rfl (QOp_load_ptr _ _ _ _ _ _ rfl Tryz.isAgg2 rfl rfl rfl) ?_
   refine AOps_q 51 _ rfl rfl rfl (QOp_lss _ _ _ _ _ _ _ rfl rfl rfl) ?_
   refine AOps_nil ?_
   refine kI h rfl (fun h _ => ?_) (fun h _ => ?_)
   ·refine ACode_skip ?_
    refine kB (fun s30 => [(2, .d (.pv (colD p0) 0)), (3, .d (.pv (colD p1) 0)), (4, .ptr 0 0), (6, iV p1.p), (7, .ptr 1 0), (8, iV x10)]) (fun s30 => [.box (colD Col.zero), .box (colD s30)]) h (fun s30 h => ?_) (fun s30 h => ?_)
    ·refine ACode_block ?_
     refine kR ?_
     refine kN 1 rfl ?_
     refine ACode_block ?_
     refine ACode_loopW (fun k1 E H => ∃ (x13 : Int) (x14 : Col), E = [(2, .d (.pv (colD p0) 0)), (3, .d (.pv (colD p1) 0)), (4, .ptr 0 0), (6, iV p1.p), (7, .ptr 1 0), (8, iV x10), (9, iV x13)] ∧ H = [.box (colD Col.zero), .box (colD x14)] ∧ spec_ProductColouring_l1 k p0 p1 x10 k1 x13 x14 = some s30) k _ _ (Weak_keep 0 hm [2, 3, 4, 6, 7, 8, 9] [0, 1] _ _ rfl rfl rfl) ⟨_, _, rfl, rfl, h⟩ ?_
     clear h
     rintro k1 E H ⟨x13, x14, rfl, rfl, h⟩
     cases k1 with
     | zero => cases (show (none : Option (Col)) = some _ from h)
     | succ k1 =>
      rw [spec_ProductColouring_l1] at h
      refine ACode_seq ?_
      refine kR ?_
      refine kM 2 rfl ?_
      refine AOps_q 56 _ rfl rfl rfl (QOp_lss _ _ _ _ _ _ _ rfl rfl rfl) ?_
      refine AOps_nil ?_
      refine kI h rfl (fun h _ => ?_) (fun h _ => ?_)
      ·refine ACode_skip ?_
       refine kB (fun s29 => [(2, .d (.pv (colD p0) 0)), (3, .d (.pv (colD p1) 0)), (4, .ptr 0 0), (6, iV p1.p), (7, .ptr 1 0), (8, iV x10), (9, iV x13)]) (fun s29 => [.box (colD Col.zero), .box (colD s29)]) h (fun s29 h => ?_) (fun s29 h => ?_)
       ·refine ACode_block ?_
        refine ACode_seq (ACode_quiet mixed (by kernel_rfl) ?_)
        refine kQ 2 rfl ?_
        obtain ⟨hc16, h⟩ := guardO h
        refine AQ_q 61 _ rfl rfl rfl (QOp_quo _ _ _ _ _ _ _ hc16 rfl rfl rfl) ?_
        refine kQ 2 rfl ?_
        obtain ⟨hc17, h⟩ := guardO h
        refine AQ_q 64 _ rfl rfl rfl (QOp_quo _ _ _ _ _ _ _ hc17 rfl rfl rfl) ?_
        refine AQ_q 65 _ rfl rfl rfl (QOp_neq _ _ _ _ _ _ _ rfl rfl rfl) ?_
        refine AQ_nil ?_
        refine kI h rfl (fun h _ => ?_) (fun h _ => ?_)
        ·refine (ACode_last (l := [_, _, _, _, _, _, _, _, _, _, _, _, _, _]) mixed (by kernel_rfl) (by kernel_rfl) ?_)
         refine kQ 2 rfl ?_
         refine AQ_call 68 _ _ _ _ _ _ _ _ _ rfl rfl rfl rfl rfl rfl rfl Tryz.call79 rfl rfl rfl (spec_l01Edge_ac x13 x10) ?_
         refine AQ_q 69 _ rfl rfl rfl (QOp_loadN_pv _ _ _ _ _ _ rfl Tryz.isAgg34 Tryz.sizeOf34 rfl (colD_all _) (colD_length _)) ?_
         refine kQ 2 rfl ?_
         obtain ⟨hc20, h⟩ := guardO h
         refine AQ_q 72 _ rfl rfl rfl (QOp_quo _ _ _ _ _ _ _ hc20 rfl rfl rfl) ?_
         refine kQ 2 rfl ?_
         obtain ⟨hc21, h⟩ := guardO h
         refine AQ_q 75 _ rfl rfl rfl (QOp_quo _ _ _ _ _ _ _ hc21 rfl rfl rfl) ?_
         obtain ⟨r22, hr22, h⟩ := bindO h
         refine AQ_call 76 _ _ _ _ _ _ _ _ _ rfl rfl rfl rfl rfl rfl rfl Tryz.call78 rfl rfl rfl (spec_l01At_ac p0 (w64 (x13.tdiv p1.p)) (w64 (x10.tdiv p1.p)) _ hr22) ?_
         refine AQ_q 77 _ rfl rfl rfl (QOp_toByte _ _ _ _ _ rfl rfl Tryz.underlying5 rfl) ?_
         refine AQ_q 78 _ rfl rfl rfl (QOp_fieldAddr_ptr _ _ _ _ _ _ 2 _ _ rfl Tryz.underlying34 rfl _ Tryz.sizeOf32 rfl rfl rfl rfl) ?_
         obtain ⟨hc23, h⟩ := guardO h
         refine AQ_q 79 _ rfl rfl rfl (QOp_indexAddrA_ptr _ _ _ _ _ _ _ _ _ _ rfl Tryz.underlying32 Tryz.sizeOf5 hc23.1 hc23.2 rfl rfl rfl rfl) ?_
         refine AQ_nil ?_
         refine AOps_store1 _ _ _ _ _ _ (colD (x14.set ((spec_l01Edge x13 x10).toNat) (toByte r22))) _ rfl rfl rfl rfl rfl rfl rfl Tryz.sizeOf5 (by rw [colD_length]; omega) (colD_setE x14 ((spec_l01Edge x13 x10).toNat) (toByte r22)) ?_
         refine AOps_nil ?_
         cases h
         exact Weak_keep 0 hm [2, 3, 4, 6, 7, 8, 9] [0, 1] _ _ rfl rfl rfl
        refine (ACode_last (l := [_, _, _, _, _, _, _, _, _, _, _, _, _, _, _, _, _]) mixed (by kernel_rfl) (by kernel_rfl) ?_)
        refine kQ 2 rfl ?_
        refine AQ_call 82 _ _ _ _ _ _ _ _ _ rfl rfl rfl rfl rfl rfl rfl Tryz.call79 rfl rfl rfl (spec_l01Edge_ac x13 x10) ?_
        refine AQ_q 83 _ rfl rfl rfl (QOp_fieldAddr_pv _ _ _ _ _ 1 _ _ rfl Tryz.underlying34 rfl _ Tryz.sizeOf2 rfl rfl) ?_
        refine AQ_q 84 _ rfl rfl rfl (QOp_load_pv _ _ _ _ _ rfl Tryz.isAgg2 rfl rfl) ?_
        refine AQ_q 85 _ rfl rfl rfl (QOp_loadN_pv _ _ _ _ _ _ rfl Tryz.isAgg34 Tryz.sizeOf34 rfl (colD_all _) (colD_length _)) ?_
        refine kQ 2 rfl ?_
        obtain ⟨hc25, h⟩ := guardO h
        refine AQ_q 88 _ rfl rfl rfl (QOp_rem _ _ _ _ _ _ _ hc25 rfl rfl rfl) ?_
        refine kQ 2 rfl ?_
        obtain ⟨hc26, h⟩ := guardO h
        refine AQ_q 91 _ rfl rfl rfl (QOp_rem _ _ _ _ _ _ _ hc26 rfl rfl rfl) ?_
        obtain ⟨r27, hr27, h⟩ := bindO h
        refine AQ_call 92 _ _ _ _ _ _ _ _ _ rfl rfl rfl rfl rfl rfl rfl Tryz.call78 rfl rfl rfl (spec_l01At_ac p1 (x13.tmod p1.p) (x10.tmod p1.p) _ hr27) ?_
        refine AQ_q 93 _ rfl rfl rfl (QOp_add _ _ _ _ _ _ _ rfl rfl rfl) ?_
        refine AQ_q 94 _ rfl rfl rfl (QOp_toByte _ _ _ _ _ rfl rfl Tryz.underlying5 rfl) ?_
        refine AQ_q 95 _ rfl rfl rfl (QOp_fieldAddr_ptr _ _ _ _ _ _ 2 _ _ rfl Tryz.underlying34 rfl _ Tryz.sizeOf32 rfl rfl rfl rfl) ?_
        obtain ⟨hc28, h⟩ := guardO h
        refine AQ_q 96 _ rfl rfl rfl (QOp_indexAddrA_ptr _ _ _ _ _ _ _ _ _ _ rfl Tryz.underlying32 Tryz.sizeOf5 hc28.1 hc28.2 rfl rfl rfl rfl) ?_
        refine AQ_nil ?_
        refine AOps_store1 _ _ _ _ _ _ (colD (x14.set ((spec_l01Edge x13 x10).toNat) (toByte (w64 (p0.k + r27))))) _ rfl rfl rfl rfl rfl rfl rfl Tryz.sizeOf5 (by rw [colD_length]; omega) (colD_setE x14 ((spec_l01Edge x13 x10).toNat) (toByte (w64 (p0.k + r27)))) ?_
        refine AOps_nil ?_
        cases h
        exact Weak_keep 0 hm [2, 3, 4, 6, 7, 8, 9] [0, 1] _ _ rfl rfl rfl
       refine (ACode_region ?_)
       refine kM 1 rfl ?_
       refine AOps_q 58 _ rfl rfl rfl (QOp_add _ _ _ _ _ _ _ rfl rfl rfl) ?_
       refine kN 1 rfl ?_
       exact ⟨k1, _, _, Nat.lt_succ_self _, Weak_keep 0 hm [2, 3, 4, 6, 7, 8, 9] [0, 1] _ _ rfl rfl rfl, _, _, rfl, rfl, h⟩
      refine ACode_exit ?_
      cases h
      exact Weak_keep 0 hm [2, 3, 4, 6, 7, 8] [0, 1] _ _ rfl rfl rfl
    refine (ACode_region ?_)
    refine kM 1 rfl ?_
    refine AOps_q 53 _ rfl rfl rfl (QOp_add _ _ _ _ _ _ _ rfl rfl rfl) ?_
    refine kN 1 rfl ?_
    exact ⟨k0, _, _, Nat.lt_succ_self _, Weak_keep 0 hm [2, 3, 4, 6, 7, 8] [0, 1] _ _ rfl rfl rfl, _, _, rfl, rfl, h⟩
   refine ACode_exit ?_
   cases h
   exact Weak_keep 0 hm [4, 7] [0, 1] _ _ rfl rfl rfl
 refine kR ?_
 refine AOps_q 97 _ rfl rfl rfl (QOp_loadN_ptr _ _ _ _ _ _ _ rfl Tryz.isAgg34 Tryz.sizeOf34 rfl rfl (colD_all _) (colD_length _)) ?_
 refine AOps_store _ _ _ _ _ _ (colD _) _ _ rfl rfl rfl rfl rfl rfl rfl (colD_one _) (by rw [colD_length]; exact Tryz.sizeOf34) (by rw [colD_length, colD_length]; decide) (colD_whole _ _) ?_
 refine kN 1 rfl ?_
 refine ACode_ret ?_
 cases h
 exact ⟨_, _, fun r a w h => ⟨r, h⟩, _, _, [], _, (.cons (ResV_agg _ _ _ _ _ _ Tryz.isAgg34 Tryz.sizeOf34 rfl rfl (colD_take _) (colD_length _)) (.cons (ResV_tmp _ _ rfl) .nil)), rfl, rfl, rfl, rfl, rfl⟩

-- (*loop.example/g01362/impl.Colouring).code
def impl_Colouring_code (k : Nat) (p0 : Col) (p1 : Option (Bool)) : Option (Int) :=
 (impl_Colouring_isColouring k p0).bind fun r1 => (if !r1 then some 1 else (p1).bind fun r3 => (if !r3 then some 2 else some 0))
set_option maxRecDepth 100000 in
theorem impl_Colouring_code_ac (k : Nat) (p0 : Col) (p1 : Option (Bool)) (g_p1 : FuncId) (c_p1 : List D) (hg_p1 : ∀ args w, (callFunc g_p1 args).run Tryz.prog w = .ok (.enter g_p1 args) w) (hf_p1 : ∀ (r : Bool), p1 = some r → AC Tryz.prog g_p1 ([] ++ c_p1.map AV.d) [] (fun res H' => res = [bV r] ∧ H' = [])) (r : Int) (h : impl_Colouring_code k p0 p1 = some r) : AC Tryz.prog 80 [.d (.pv (colD p0) 0), .d (.clo g_p1 c_p1)] [] (fun res H' => res = [iV r] ∧ H' = []) := by
 refine AC_of_body true Tryz.func80 rfl Tryz.ntmps80 (rvs := [.tmp 4]) rfl rfl (fun G hG => ?_)
 have hm : G.H.length = 0 := by rw [hG]; rfl
 have hz : zeroG G.H = true := by rw [hG]; rfl
 unfold impl_Colouring_code at h
 refine kR ?_
 refine kN 1 rfl ?_
 refine ACode_seq ?_
 refine ACode_block ?_
 refine kR ?_
 refine kM 1 rfl ?_
 obtain ⟨r1, hr1, h⟩ := bindO h
 refine kC [] 7 (bV r1) [] rfl Tryz.call74 rfl rfl (impl_Colouring_isColouring_ac k p0 _ hr1) rfl ?_
 refine AOps_q 8 _ rfl rfl rfl (QOp_not _ _ _ rfl rfl) ?_
 refine kN 1 rfl ?_
 refine kI h rfl (fun h _ => ?_) (fun h _ => ?_)
 ·refine kR ?_
  refine kN 1 rfl ?_
  refine ACode_ret ?_
  cases h
  exact ⟨_, _, fun r a w h => ⟨r, h⟩, _, _, [], _, (.cons (ResV_tmp _ _ rfl) .nil), rfl, rfl, rfl, rfl, rfl⟩
 refine kR ?_
 refine kM 1 rfl ?_
 obtain ⟨r3, hr3, h⟩ := bindO h
 refine kC [] 11 (bV r3) [] rfl hg_p1 rfl (viewA_mapD _) (hf_p1 _ hr3) rfl ?_
 refine AOps_q 12 _ rfl rfl rfl (QOp_not _ _ _ rfl rfl) ?_
 refine kN 1 rfl ?_
 refine kI h rfl (fun h _ => ?_) (fun h _ => ?_)
 ·refine kR ?_
  refine kN 1 rfl ?_
  refine ACode_ret ?_
  cases h
  exact ⟨_, _, fun r a w h => ⟨r, h⟩, _, _, [], _, (.cons (ResV_tmp _ _ rfl) .nil), rfl, rfl, rfl, rfl, rfl⟩
 refine ACode_skip ?_
 refine kR ?_
 refine kN 1 rfl ?_
 refine ACode_ret ?_
 cases h
 exact ⟨_, _, fun r a w h => ⟨r, h⟩, _, _, [], _, (.cons (ResV_tmp _ _ rfl) .nil), rfl, rfl, rfl, rfl, rfl⟩

-- loop.example/g01362/impl.always
def impl_always : Bool :=
 true
set_option maxRecDepth 100000 in
theorem impl_always_ac : AC Tryz.prog 81 [] [] (fun res H' => res = [bV (impl_always)] ∧ H' = []) := by
 refine AC_of_body true Tryz.func81 rfl Tryz.ntmps81 (rvs := [.tmp 0]) rfl rfl (fun G hG => ?_)
 have hm : G.H.length = 0 := by rw [hG]; rfl
 have hz : zeroG G.H = true := by rw [hG]; rfl
 obtain ⟨r, h⟩ : ∃ r, impl_always = r := ⟨_, rfl⟩
 rw [h]
 unfold impl_always at h
 refine kR ?_
 refine kN 1 rfl ?_
 refine kR ?_
 refine kN 1 rfl ?_
 refine ACode_ret ?_
 cases h
 exact ⟨_, _, fun r a w h => ⟨r, h⟩, _, _, [], _, (.cons (ResV_tmp _ _ rfl) .nil), rfl, rfl, rfl, rfl, rfl⟩

-- (*loop.example/g01362/impl.Colouring).greatest$1
def impl_Colouring_greatest_c1 (p0 : List Int) (p1 : List Int) : Bool × List Int :=
 letO (if decide ((p1.length : Int) < (p0.length : Int)) then p0 else p1) fun (s2 : List Int) => (true, s2)
set_option maxRecDepth 100000 in
theorem impl_Colouring_greatest_c1_ac (p0 : List Int) (p1 : List Int) : AC Tryz.prog 176 [.d (.sl none (intsD p0)), .ptr 0 0] [.box [.sl none (intsD p1)]] (fun res H' => res = [bV ((impl_Colouring_greatest_c1 p0 p1).1)] ∧ H' = [.box [.sl none (intsD ((impl_Colouring_greatest_c1 p0 p1).2))]]) := by
 refine AC_of_body true Tryz.func176 rfl Tryz.ntmps176 (rvs := [.tmp 3]) rfl rfl (fun G hG => ?_)
 have hm : G.H.length = 1 := by rw [hG]; rfl
 have hz : zeroG G.H = true := by rw [hG]; rfl
 obtain ⟨r, h⟩ : ∃ r, impl_Colouring_greatest_c1 p0 p1 = r := ⟨_, rfl⟩
 rw [h]
 unfold impl_Colouring_greatest_c1 at h
 refine kR ?_
 refine kN 1 rfl ?_
 refine kL (fun s2 => []) (fun s2 => [.box [.sl none (intsD s2)]]) h (fun s2 h => ?_) (fun s2 h => ?_)
 ·refine kR ?_
  refine kM 1 rfl ?_
  refine AOps_q 5 _ rfl rfl rfl (QOp_len_sl _ _ _ _ _ _ _ (intsD_length _) rfl rfl rfl rfl Tryz.underlying27 rfl) ?_
  refine AOps_q 6 _ rfl rfl rfl (QOp_load_ptr _ _ _ _ _ _ rfl Tryz.isAgg27 rfl rfl rfl) ?_
  refine AOps_q 7 _ rfl rfl rfl (QOp_len_sl _ _ _ _ _ _ _ (intsD_length _) rfl rfl rfl rfl Tryz.underlying27 rfl) ?_
  refine AOps_q 8 _ rfl rfl rfl (QOp_gtr _ _ _ _ _ _ _ rfl rfl rfl) ?_
  refine AOps_nil ?_
  refine kI h rfl (fun h _ => ?_) (fun h _ => ?_)
  ·refine (ACode_region ?_)
   refine kM 1 rfl ?_
   refine AOps_store1 _ _ _ _ _ _ _ _ rfl rfl rfl rfl rfl rfl rfl Tryz.sizeOf27 (Nat.le_of_ble_eq_true rfl) rfl ?_
   refine AOps_nil ?_
   cases h
   exact Weak_keep 1 hm [] [] _ _ rfl rfl rfl
  refine ACode_skip ?_
  cases h
  exact Weak_keep 1 hm [] [] _ _ rfl rfl rfl
 refine kR ?_
 refine kN 1 rfl ?_
 refine ACode_ret ?_
 cases h
 exact ⟨_, _, fun r a w h => ⟨r, h⟩, _, _, [], _, (.cons (ResV_tmp _ _ rfl) .nil), rfl, rfl, rfl, rfl, rfl⟩

-- (*loop.example/g01362/impl.Colouring).joins
def impl_Colouring_joins (p0 : Col) (p1 : Int) (p2 : Int) (p3 : Int) : Option (Bool) :=
 ((if !decide (p1 = p2) then (impl_Colouring_at p0 p1 p2).bind fun r2 => some (decide (r2 = p3)) else some false) : Option (Bool)).bind fun s3 => some s3
set_option maxRecDepth 100000 in
theorem impl_Colouring_joins_ac (p0 : Col) (p1 : Int) (p2 : Int) (p3 : Int) (r : Bool) (h : impl_Colouring_joins p0 p1 p2 p3 = some r) : AC Tryz.prog 180 [.d (.pv (colD p0) 0), iV p1, iV p2, iV p3] [] (fun res H' => res = [bV r] ∧ H' = []) := by
 refine AC_of_body true Tryz.func180 rfl Tryz.ntmps180 (rvs := [.tmp 8]) rfl rfl (fun G hG => ?_)
 have hm : G.H.length = 0 := by rw [hG]; rfl
 have hz : zeroG G.H = true := by rw [hG]; rfl
 unfold impl_Colouring_joins at h
 refine kR ?_
 refine kN 1 rfl ?_
 refine kB (fun s3 => [(8, bV s3)]) (fun s3 => []) h (fun s3 h => ?_) (fun s3 h => ?_)
 ·refine (ACode_region ?_)
  refine kM 2 rfl ?_
  refine AOps_q 11 _ rfl rfl rfl (QOp_neq _ _ _ _ _ _ _ rfl rfl rfl) ?_
  refine kM 1 rfl ?_
  refine AOps_case 12 _ rfl (fun hb1 => ?_) (fun hb1 => ?_)
  ·have h := iteT hb1 h
   refine kM 3 rfl ?_
   obtain ⟨r2, hr2, h⟩ := bindO h
   refine kC [] 16 (iV r2) [] rfl Tryz.call137 rfl rfl (impl_Colouring_at_ac p0 p1 p2 _ hr2) rfl ?_
   refine kM 1 rfl ?_
   refine AOps_q 18 _ rfl rfl rfl (QOp_eql _ _ _ _ _ _ _ rfl rfl rfl) ?_
   refine kN 2 rfl ?_
   cases h
   exact Weak_keep 0 hm [8] [] _ _ rfl rfl rfl
  have h := iteF hb1 h
  refine AOps_skip 13 rfl rfl rfl ?_
  refine AOps_skip 14 rfl rfl rfl ?_
  refine AOps_skip 15 rfl rfl rfl ?_
  refine AOps_skip 16 rfl rfl rfl ?_
  refine AOps_skip 17 rfl rfl rfl ?_
  refine AOps_skip 18 rfl rfl rfl ?_
  refine kN 2 rfl ?_
  cases h
  exact Weak_keep 0 hm [8] [] _ _ rfl rfl rfl
 refine ACode_ret ?_
 cases h
 exact ⟨_, _, fun r a w h => ⟨r, h⟩, _, _, [], _, (.cons (ResV_tmp _ _ rfl) .nil), rfl, rfl, rfl, rfl, rfl⟩

-- (*loop.example/g01362/impl.Colouring).goesWith$1
def impl_Colouring_goesWith_c1 (p0 : Int) (p1 : Col) (p2 : Int) (p3 : Int) : Option (Bool) :=
 (impl_Colouring_joins p1 p0 p2 p3).bind fun r1 => some (!r1)
set_option maxRecDepth 100000 in
theorem impl_Colouring_goesWith_c1_ac (p0 : Int) (p1 : Col) (p2 : Int) (p3 : Int) (r : Bool) (h : impl_Colouring_goesWith_c1 p0 p1 p2 p3 = some r) : AC Tryz.prog 179 [iV p0, .d (.pv ([.pv (colD p1) 0]) 0), .d (.pv ([iD p2]) 0), .d (.pv ([iD p3]) 0)] [] (fun res H' => res = [bV r] ∧ H' = []) := by
 refine AC_of_body true Tryz.func179 rfl Tryz.ntmps179 (rvs := [.tmp 5]) rfl rfl (fun G hG => ?_)
 have hm : G.H.length = 0 := by rw [hG]; rfl
 have hz : zeroG G.H = true := by rw [hG]; rfl
 unfold impl_Colouring_goesWith_c1 at h
 refine kR ?_
 refine kN 1 rfl ?_
 refine kR ?_
 refine AOps_q 6 _ rfl rfl rfl (QOp_load_pv _ _ _ _ _ rfl Tryz.isAgg79 rfl rfl) ?_
 refine kM 1 rfl ?_
 refine AOps_q 8 _ rfl rfl rfl (QOp_load_pv _ _ _ _ _ rfl Tryz.isAgg2 rfl rfl) ?_
 refine AOps_q 9 _ rfl rfl rfl (QOp_load_pv _ _ _ _ _ rfl Tryz.isAgg2 rfl rfl) ?_
 obtain ⟨r1, hr1, h⟩ := bindO h
 refine kC [] 10 (bV r1) [] rfl Tryz.call180 rfl rfl (impl_Colouring_joins_ac p1 p0 p2 p3 _ hr1) rfl ?_
 refine AOps_q 11 _ rfl rfl rfl (QOp_not _ _ _ rfl rfl) ?_
 refine kN 1 rfl ?_
 refine ACode_ret ?_
 cases h
 exact ⟨_, _, fun r a w h => ⟨r, h⟩, _, _, [], _, (.cons (ResV_tmp _ _ rfl) .nil), rfl, rfl, rfl, rfl, rfl⟩

-- (*loop.example/g01362/impl.Colouring).goesWith
def impl_Colouring_goesWith (k : Nat) (p0 : Col) (p1 : Int) (p2 : List Int) (p3 : Int) : Option (Bool) :=
 (slices_ContainsFunc k p2 (fun a0 => impl_Colouring_goesWith_c1 a0 p0 p3 p1)).bind fun r1 => some (!r1)
set_option maxRecDepth 100000 in
theorem impl_Colouring_goesWith_ac (k : Nat) (p0 : Col) (p1 : Int) (p2 : List Int) (p3 : Int) (r : Bool) (h : impl_Colouring_goesWith k p0 p1 p2 p3 = some r) : AC Tryz.prog 147 [.d (.pv (colD p0) 0), iV p1, .d (.sl none (intsD p2)), iV p3] [] (fun res H' => res = [bV r] ∧ H' = []) := by
 refine AC_of_body true Tryz.func147 rfl Tryz.ntmps147 (rvs := [.tmp 8]) rfl rfl (fun G hG => ?_)
 have hm : G.H.length = 0 := by rw [hG]; rfl
 have hz : zeroG G.H = true := by rw [hG]; rfl
 unfold impl_Colouring_goesWith at h
 refine kR ?_
 refine AOps_boxI 4 _ _ (.pv (colD p0) 0) _ rfl (fun c hc => by cases hc with | head => rfl | tail _ h => cases h) rfl rfl rfl rfl rfl ?_
 refine AOps_boxI 5 _ _ (iD p1) _ rfl (fun c hc => by cases hc with | head => rfl | tail _ h => cases h) rfl rfl rfl rfl rfl ?_
 refine AOps_boxI 7 _ _ (iD p3) _ rfl (fun c hc => by cases hc with | head => rfl | tail _ h => cases h) rfl rfl rfl rfl rfl ?_
 refine kN 1 rfl ?_
 refine kR ?_
 refine kM 1 rfl ?_
 refine AOps_q 10 _ rfl rfl rfl (QOp_makeFuncD _ _ _ _ rfl rfl rfl) ?_
 obtain ⟨r1, hr1, h⟩ := bindO h
 refine kC [] 11 (bV r1) [] rfl Tryz.call123 rfl rfl (slices_ContainsFunc_ac k p2 (fun a0 => impl_Colouring_goesWith_c1 a0 p0 p3 p1) 179 ([.pv ([.pv (colD p0) 0]) 0, .pv ([iD p3]) 0, .pv ([iD p1]) 0]) Tryz.call179 (fun a0 r h => impl_Colouring_goesWith_c1_ac a0 p0 p3 p1 r h) _ hr1) rfl ?_
 refine AOps_q 12 _ rfl rfl rfl (QOp_not _ _ _ rfl rfl) ?_
 refine kN 1 rfl ?_
 refine ACode_ret ?_
 cases h
 exact ⟨_, _, fun r a w h => ⟨r, h⟩, _, _, [], _, (.cons (ResV_tmp _ _ rfl) .nil), rfl, rfl, rfl, rfl, rfl⟩

-- (*loop.example/g01362/impl.Colouring).cliques
def impl_Colouring_cliques_on_greatest_c1_l0 (k : Nat) (self : Col → Int → (List Int) → (List Int) → Option (Bool × List Int)) (p0 : Col) (p1 : Int) (p2 : List Int) : Nat → Int → (List Int) → Option (Sum (List Int) (Bool × List Int))
 | 0, _, _ => none
 | k0 + 1, x6, x7 => (if decide (x6 < p0.p) then (((impl_Colouring_goesWith k p0 p1 p2 x6).bind fun r9 => (if r9 then (if p2.isEmpty then (if ([x6]).length ≤ 1099511627776 ∧ ([x6]).length ≠ 0 then (self p0 p1 ([x6]) x7).bind fun r14 => some (!r14.1, r14.2) else none) else (cloneA p2).bind fun r15 => (if r15.length + ([x6]).length ≤ 1099511627776 then (self p0 p1 (r15 ++ ([x6])) x7).bind fun r17 => some (!r17.1, r17.2) else none)) else some (false, x7)) : Option (Bool × List Int)).bind fun s18 => (if s18.1 then (some (.inr (false, s18.2))).bind fun rr => some (.inr rr) else some (.inl s18.2)) : Option (Sum (List Int) (Sum (List Int) (Bool × List Int)))).bind fun os20 => (match os20 with | .inl s20 => impl_Colouring_cliques_on_greatest_c1_l0 k self p0 p1 p2 k0 (w64 (x6 + 1)) s20 | .inr rr => some rr) else some (.inl x7))
def impl_Colouring_cliques_on_greatest_c1_body (self : Col → Int → (List Int) → (List Int) → Option (Bool × List Int)) (k : Nat) (p0 : Col) (p1 : Int) (p2 : List Int) (p3_0 : List Int) : Option (Bool × List Int) :=
 (if !((impl_Colouring_greatest_c1 p2 p3_0).1) then some (false, (impl_Colouring_greatest_c1 p2 p3_0).2) else ((if decide (0 < (p2.length : Int)) then (if 0 ≤ w64 ((p2.length : Int) - 1) ∧ w64 ((p2.length : Int) - 1) < (p2.length : Int) then some (w64 ((p2.getD (w64 ((p2.length : Int) - 1)).toNat 0) + 1)) else none) else some 0) : Option (Int)).bind fun s5 => (impl_Colouring_cliques_on_greatest_c1_l0 k self p0 p1 p2 k s5 ((impl_Colouring_greatest_c1 p2 p3_0).2) : Option (Sum (List Int) (Bool × List Int))).bind fun os21 => (match os21 with | .inl s21 => some (true, s21) | .inr rr => some rr))
def impl_Colouring_cliques_on_greatest_c1 : Nat → Col → Int → (List Int) → (List Int) → Option (Bool × List Int)
 | 0, _, _, _, _ => none
 | k + 1, p0, p1, p2, p3_0 => impl_Colouring_cliques_on_greatest_c1_body (impl_Colouring_cliques_on_greatest_c1 k) k p0 p1 p2 p3_0
set_option maxRecDepth 100000 in
theorem impl_Colouring_cliques_on_greatest_c1_ac (k : Nat) (p0 : Col) (p1 : Int) (p2 : List Int) (p3_0 : List Int) (r : Bool × List Int) (h : impl_Colouring_cliques_on_greatest_c1 k p0 p1 p2 p3_0 = some r) : AC Tryz.prog 141 [.d (.pv (colD p0) 0), iV p1, .d (.sl none (intsD p2)), .clo 176 [.ptr 0 0]] [.box [.sl none (intsD p3_0)]] (fun res H' => res = [bV r.1] ∧ H' = [.box [.sl none (intsD r.2)]]) := by
 induction k generalizing p0 p1 p2 p3_0 r with
 | zero => simp [impl_Colouring_cliques_on_greatest_c1] at h
 | succ k ih =>
  rw [impl_Colouring_cliques_on_greatest_c1] at h
  obtain ⟨self, hself, hk⟩ : ∃ self : Col → Int → (List Int) → (List Int) → Option (Bool × List Int), (∀ (p0 : Col) (p1 : Int) (p2 : List Int) (p3_0 : List Int) (r : Bool × List Int), self p0 p1 p2 p3_0 = some r → AC Tryz.prog 141 [.d (.pv (colD p0) 0), iV p1, .d (.sl none (intsD p2)), .clo 176 [.ptr 0 0]] [.box [.sl none (intsD p3_0)]] (fun res H' => res = [bV r.1] ∧ H' = [.box [.sl none (intsD r.2)]])) ∧ impl_Colouring_cliques_on_greatest_c1 k = self := ⟨impl_Colouring_cliques_on_greatest_c1 k, fun p0 p1 p2 p3_0 r h => ih p0 p1 p2 p3_0 r h, rfl⟩
  rw [hk] at h
  clear ih hk
  refine AC_of_body true Tryz.func141 rfl Tryz.ntmps141 (rvs := [.tmp 8]) rfl rfl (fun G hG => ?_)
  have hm : G.H.length = 1 := by rw [hG]; rfl
  have hz : zeroG G.H = true := by rw [hG]; rfl
  unfold impl_Colouring_cliques_on_greatest_c1_body at h
  refine kR ?_
  refine kN 1 rfl ?_
  refine ACode_seq ?_
  refine kR ?_
  refine kM 2 rfl ?_
  refine kC [0] 13 (bV ((impl_Colouring_greatest_c1 p2 p3_0).1)) [.box [.sl none (intsD ((impl_Colouring_greatest_c1 p2 p3_0).2))]] rfl Tryz.call176 rfl rfl (impl_Colouring_greatest_c1_ac p2 p3_0) rfl ?_
  refine AOps_q 14 _ rfl rfl rfl (QOp_not _ _ _ rfl rfl) ?_
  refine AOps_nil ?_
  refine kI h rfl (fun h _ => ?_) (fun h _ => ?_)
  ·refine kR ?_
   refine kN 1 rfl ?_
   refine ACode_ret ?_
   cases h
   exact ⟨_, _, fun r a w h => ⟨r, h⟩, _, _, [], _, (.cons (ResV_tmp _ _ rfl) .nil), rfl, rfl, rfl, rfl, rfl⟩
  refine ACode_skip ?_
  refine kR ?_
  refine kN 1 rfl ?_
  refine kB (fun s5 => [(0, .d (.pv (colD p0) 0)), (1, iV p1), (2, .d (.sl none (intsD p2))), (3, .clo 176 [.ptr 0 0]), (9, iV s5)]) (fun s5 => [.box [.sl none (intsD ((impl_Colouring_greatest_c1 p2 p3_0).2))]]) h (fun s5 h => ?_) (fun s5 h => ?_)
  ·refine kR ?_
   refine kM 1 rfl ?_
   refine AOps_q 16 _ rfl rfl rfl (QOp_len_sl _ _ _ _ _ _ _ (intsD_length _) rfl rfl rfl rfl Tryz.underlying27 rfl) ?_
   refine AOps_q 17 _ rfl rfl rfl (QOp_gtr _ _ _ _ _ _ _ rfl rfl rfl) ?_
   refine AOps_nil ?_
   refine kI h rfl (fun h _ => ?_) (fun h _ => ?_)
   ·refine (ACode_region ?_)
    refine kM 2 rfl ?_
    refine AOps_q 20 _ rfl rfl rfl (QOp_len_sl _ _ _ _ _ _ _ (intsD_length _) rfl rfl rfl rfl Tryz.underlying27 rfl) ?_
    refine AOps_q 21 _ rfl rfl rfl (QOp_sub _ _ _ _ _ _ _ rfl rfl rfl) ?_
    obtain ⟨hc4, h⟩ := guardO h
    refine AOps_q 22 _ rfl rfl rfl (QOp_indexAddr_sl _ _ _ _ _ _ _ _ rfl Tryz.underlying27 Tryz.sizeOf2 hc4.1 (by rw [intsD_length]; exact hc4.2) rfl rfl) ?_
    refine AOps_q 23 _ rfl rfl rfl (QOp_load_pv _ _ _ _ _ rfl Tryz.isAgg2 rfl (intsD_get _ _ 0 (by omega))) ?_
    refine AOps_q 24 _ rfl rfl rfl (QOp_add _ _ _ _ _ _ _ rfl rfl rfl) ?_
    refine kN 1 rfl ?_
    cases h
    exact Weak_keep 1 hm [0, 1, 2, 3, 9] [] _ _ rfl rfl rfl
   refine ACode_skip ?_
   cases h
   exact Weak_keep 1 hm [0, 1, 2, 3, 9] [] _ _ rfl rfl rfl
  refine kO (fun s21 => []) (fun s21 => [.box [.sl none (intsD s21)]]) h (fun os21 h hks21 => ?_) (fun s21 h => ?_)
  ·refine kR ?_
   refine kN 2 rfl ?_
   refine ACode_block ?_
   refine ACode_loopW (fun k0 E H => ∃ (x6 : Int) (x7 : List Int), E = [(0, .d (.pv (colD p0) 0)), (1, iV p1), (2, .d (.sl none (intsD p2))), (3, .clo 176 [.ptr 0 0]), (10, iV x6)] ∧ H = [.box [.sl none (intsD x7)]] ∧ impl_Colouring_cliques_on_greatest_c1_l0 k self p0 p1 p2 k0 x6 x7 = some os21) k _ _ (Weak_keep 1 hm [0, 1, 2, 3, 10] [] _ _ rfl rfl rfl) ⟨_, _, rfl, rfl, h⟩ ?_
   clear h
   rintro k0 E H ⟨x6, x7, rfl, rfl, h⟩
   cases k0 with
   | zero => cases (show (none : Option (Sum (List Int) (Bool × List Int))) = some _ from h)
   | succ k0 =>
    rw [impl_Colouring_cliques_on_greatest_c1_l0] at h
    refine ACode_seq ?_
    refine kR ?_
    refine kM 2 rfl ?_
    refine AOps_q 28 _ rfl rfl rfl (QOp_nilCheck_pv _ _ _ rfl rfl) ?_
    refine AOps_q 29 _ rfl rfl rfl (QOp_fieldAddr_pv _ _ _ _ _ 0 _ _ rfl Tryz.underlying34 rfl _ Tryz.sizeOf2 rfl rfl) ?_
    refine AOps_q 30 _ rfl rfl rfl (QOp_load_pv _ _ _ _ _ rfl Tryz.isAgg2 rfl rfl) ?_
    refine AOps_q 31 _ rfl rfl rfl (QOp_lss _ _ _ _ _ _ _ rfl rfl rfl) ?_
    refine AOps_nil ?_
    refine kI h rfl (fun h _ => ?_) (fun h _ => ?_)
    ·refine ACode_skip ?_
     refine kO (fun s20 => [(0, .d (.pv (colD p0) 0)), (1, iV p1), (2, .d (.sl none (intsD p2))), (3, .clo 176 [.ptr 0 0]), (10, iV x6)]) (fun s20 => [.box [.sl none (intsD s20)]]) h (fun os20 h hks20 => ?_) (fun s20 h => ?_)
     ·refine ACode_block ?_
      refine kB (fun s18 => [(0, .d (.pv (colD p0) 0)), (1, iV p1), (2, .d (.sl none (intsD p2))), (3, .clo 176 [.ptr 0 0]), (10, iV x6), (50, bV s18.1)]) (fun s18 => [.box [.sl none (intsD s18.2)]]) h (fun s18 h => ?_) (fun s18 h => ?_)
      ·refine (ACode_region ?_)
       refine kM 4 rfl ?_
       obtain ⟨r9, hr9, h⟩ := bindO h
       refine kC [] 38 (bV r9) [.box [.sl none (intsD x7)]] rfl Tryz.call147 rfl rfl (impl_Colouring_goesWith_ac k p0 p1 p2 x6 _ hr9) rfl ?_
       refine kM 1 rfl ?_
       refine AOps_case 39 _ rfl (fun hb10 => ?_) (fun hb10 => ?_)
       ·have h := iteT hb10 h
        refine kM 3 rfl ?_
        refine bsplit (p2.isEmpty) (fun hb11 => ?_) (fun hb11 => ?_)
        ·have h := iteT hb11 h
         refine kC [] 43 (.d (.se none)) [.box [.sl none (intsD x7)]] rfl Tryz.call109 rfl rfl (cloneB_ac p2 hb11) rfl ?_
         refine kM 1 rfl ?_
         refine AOps_buildSlice 45 _ _ _ [_] (intsD ([x6])) _ rfl rfl rfl rfl rfl (by decide) Tryz.underlying27 Tryz.sizeOf2 (zero_of Tryz.typeInfo2 rfl) rfl rfl (intsD_one _) ?_
         obtain ⟨hc13, h⟩ := guardO h
         refine AOps_append0 46 _ _ _ _ _ _ _ _ _ _ rfl rfl rfl rfl rfl rfl rfl Tryz.underlying27 Tryz.type2 rfl rfl rfl (by decide) rfl rfl rfl (intsD_one _) (by rw [intsD_length]; exact hc13.1) (by rw [intsD_length]; exact hc13.2) ?_
         refine kM 1 rfl ?_
         refine AOps_freezeL [46] 2 0 _ (allc (rfl) (fun _ h => nomatch h)) rfl ?_
         obtain ⟨r14, hr14, h⟩ := bindO h
         refine kC [0] 48 (bV r14.1) [.box [.sl none (intsD r14.2)], .vec 0 (intsD ([x6])), .gone] rfl Tryz.call141 rfl rfl (hself p0 p1 ([x6]) x7 _ hr14) rfl ?_
         refine AOps_q 49 _ rfl rfl rfl (QOp_not _ _ _ rfl rfl) ?_
         refine kN 1 rfl ?_
         cases h
         exact Weak_keep 1 hm [0, 1, 2, 3, 10, 50] [] _ _ rfl rfl rfl
        have h := iteF hb11 h
        obtain ⟨r15, hr15, h⟩ := bindO h
        refine kC [] 43 (.vec 1 0) [.box [.sl none (intsD x7)], .vec 0 (intsD r15)] rfl Tryz.call109 rfl rfl (cloneA_ac p2 _ hb11 hr15) rfl ?_
        refine kM 1 rfl ?_
        refine AOps_buildSlice 45 _ _ _ [_] (intsD ([x6])) _ rfl rfl rfl rfl rfl (by decide) Tryz.underlying27 Tryz.sizeOf2 (zero_of Tryz.typeInfo2 rfl) rfl rfl (intsD_one _) ?_
        obtain ⟨hc16, h⟩ := guardO h
        refine AOps_append 46 _ _ _ _ _ _ _ _ _ _ _ _ rfl rfl rfl rfl rfl rfl rfl Tryz.underlying27 Tryz.type2 rfl rfl rfl (by decide) rfl rfl rfl rfl (intsD_one _) (by rw [intsD_length, intsD_length]; exact hc16) ?_
        rw [intsD_app]
        refine kM 1 rfl ?_
        refine AOps_freezeL [46] 1 1 _ (allc (rfl) (fun _ h => nomatch h)) rfl ?_
        obtain ⟨r17, hr17, h⟩ := bindO h
        refine kC [0] 48 (bV r17.1) [.box [.sl none (intsD r17.2)], .gone, .vec 0 (intsD ([x6]))] rfl Tryz.call141 rfl rfl (hself p0 p1 (r15 ++ ([x6])) x7 _ hr17) rfl ?_
        refine AOps_q 49 _ rfl rfl rfl (QOp_not _ _ _ rfl rfl) ?_
        refine kN 1 rfl ?_
        cases h
        exact Weak_keep 1 hm [0, 1, 2, 3, 10, 50] [] _ _ rfl rfl rfl
       have h := iteF hb10 h
       refine AOps_skip 40 rfl rfl rfl ?_
       refine AOps_skip 41 rfl rfl rfl ?_
       refine AOps_skip 42 rfl rfl rfl ?_
       refine AOps_skip 43 rfl rfl rfl ?_
       refine AOps_skip 44 rfl rfl rfl ?_
       refine AOps_skip 45 rfl rfl rfl ?_
       refine AOps_skip 46 rfl rfl rfl ?_
       refine AOps_skip 47 rfl rfl rfl ?_
       refine AOps_skip 48 rfl rfl rfl ?_
       refine AOps_skip 49 rfl rfl rfl ?_
       refine kN 1 rfl ?_
       cases h
       exact Weak_keep 1 hm [0, 1, 2, 3, 10, 50] [] _ _ rfl rfl rfl
      refine kI h rfl (fun h _ => ?_) (fun h _ => ?_)
      ·refine kR ?_
       refine kN 1 rfl ?_
       refine ACode_ret ?_
       obtain ⟨rr, hz22, h2⟩ := bindO h
       obtain rfl := Option.some.inj h2
       obtain rfl := Option.some.inj (show some rr = some _ from hks20)
       have h := hz22
       cases h
       have h := hks21
       cases h
       exact ⟨_, _, fun r a w h => ⟨r, h⟩, _, _, [], _, (.cons (ResV_tmp _ _ rfl) .nil), rfl, rfl, rfl, rfl, rfl⟩
      refine ACode_skip ?_
      cases h
      exact ⟨_, rfl, Weak_keep 1 hm [0, 1, 2, 3, 10] [] _ _ rfl rfl rfl⟩
     refine (ACode_region ?_)
     refine kM 1 rfl ?_
     refine AOps_q 33 _ rfl rfl rfl (QOp_add _ _ _ _ _ _ _ rfl rfl rfl) ?_
     refine kN 1 rfl ?_
     exact ⟨k0, _, _, Nat.lt_succ_self _, Weak_keep 1 hm [0, 1, 2, 3, 10] [] _ _ rfl rfl rfl, _, _, rfl, rfl, h⟩
    refine ACode_exit ?_
    cases h
    exact ⟨_, rfl, Weak_keep 1 hm [] [] _ _ rfl rfl rfl⟩
  refine kR ?_
  refine kN 1 rfl ?_
  refine ACode_ret ?_
  cases h
  exact ⟨_, _, fun r a w h => ⟨r, h⟩, _, _, [], _, (.cons (ResV_tmp _ _ rfl) .nil), rfl, rfl, rfl, rfl, rfl⟩

-- (*loop.example/g01362/impl.Colouring).greatest
def impl_Colouring_greatest (k : Nat) (p0 : Col) (p1 : Int) : Option (List Int) :=
 (impl_Colouring_cliques_on_greatest_c1 k p0 p1 ([]) ([] : List Int)).bind fun r1 => some r1.2
set_option maxRecDepth 100000 in
theorem impl_Colouring_greatest_ac (k : Nat) (p0 : Col) (p1 : Int) (r : List Int) (h : impl_Colouring_greatest k p0 p1 = some r) : AC Tryz.prog 138 [.d (.pv (colD p0) 0), iV p1] [] (fun res H' => res = [.d (.sl none (intsD r))] ∧ H' = []) := by
 refine AC_of_body true Tryz.func138 rfl Tryz.ntmps138 (rvs := [.tmp 4]) rfl rfl (fun G hG => ?_)
 have hm : G.H.length = 0 := by rw [hG]; rfl
 have hz : zeroG G.H = true := by rw [hG]; rfl
 unfold impl_Colouring_greatest at h
 refine kR ?_
 refine kN 1 rfl ?_
 refine kR ?_
 refine AOps_buildSlice 6 _ _ _ [] (intsD ([] : List Int)) _ rfl rfl rfl rfl rfl (by decide) Tryz.underlying27 Tryz.sizeOf2 (zero_of Tryz.typeInfo2 rfl) rfl rfl (intsD_one _) ?_
 refine AOps_alloc 5 _ _ ([.sl (some true) []]) (zero_of Tryz.typeInfo27 rfl) (by rfl) rfl rfl rfl rfl ?_
 refine AOps_freeze 6 0 0 _ rfl rfl ?_
 refine AOps_store1 _ _ _ _ _ _ _ _ rfl rfl rfl rfl rfl rfl rfl Tryz.sizeOf27 (Nat.le_of_ble_eq_true rfl) rfl ?_
 refine AOps_nil ?_
 refine kR ?_
 refine kM 2 rfl ?_
 refine AOps_q 9 _ rfl rfl rfl (QOp_makeFunc _ _ _ rfl rfl) ?_
 obtain ⟨r1, hr1, h⟩ := bindO h
 refine kC [1] 10 (bV r1.1) [.gone, .box [.sl none (intsD r1.2)]] rfl Tryz.call141 rfl rfl (impl_Colouring_cliques_on_greatest_c1_ac k p0 p1 ([]) ([] : List Int) _ hr1) rfl ?_
 refine AOps_nil ?_
 refine kR ?_
 refine AOps_q 11 _ rfl rfl rfl (QOp_load_ptr _ _ _ _ _ _ rfl Tryz.isAgg27 rfl rfl rfl) ?_
 refine kN 1 rfl ?_
 refine ACode_ret ?_
 cases h
 exact ⟨_, _, fun r a w h => ⟨r, h⟩, _, _, [], _, (.cons (ResV_tmp _ _ rfl) .nil), rfl, rfl, rfl, rfl, rfl⟩

-- (*loop.example/g01362/impl.Colouring).cliqueNumbers
def impl_Colouring_cliqueNumbers_l0 (k : Nat) (p0 : Col) : Nat → Int → (List Int) → Option (List Int)
 | 0, _, _ => none
 | k0 + 1, x1, x2 => (if decide (x1 < p0.k) then (impl_Colouring_greatest k p0 x1).bind fun r4 => (if x2.length + ([(impl_size r4)]).length ≤ 1099511627776 then impl_Colouring_cliqueNumbers_l0 k p0 k0 (w64 (x1 + 1)) (x2 ++ ([(impl_size r4)])) else none) else some x2)
def impl_Colouring_cliqueNumbers (k : Nat) (p0 : Col) : Option (List Int) :=
 (impl_Colouring_cliqueNumbers_l0 k p0 k 0 ([] : List Int) : Option (List Int)).bind fun s7 => some s7
set_option maxRecDepth 100000 in
theorem impl_Colouring_cliqueNumbers_ac (k : Nat) (p0 : Col) (r : List Int) (h : impl_Colouring_cliqueNumbers k p0 = some r) : AC Tryz.prog 82 [.d (.pv (colD p0) 0)] [] (fun res H' => res = [.vec 0 0] ∧ H' = [.vec 0 (intsD r)]) := by
 refine AC_of_body true Tryz.func82 rfl Tryz.ntmps82 (rvs := [.tmp 2]) rfl rfl (fun G hG => ?_)
 have hm : G.H.length = 0 := by rw [hG]; rfl
 have hz : zeroG G.H = true := by rw [hG]; rfl
 unfold impl_Colouring_cliqueNumbers at h
 refine kR ?_
 refine kN 1 rfl ?_
 refine kR ?_
 refine AOps_buildSlice 5 _ _ _ [] (intsD ([] : List Int)) _ rfl rfl rfl rfl rfl (by decide) Tryz.underlying27 Tryz.sizeOf2 (zero_of Tryz.typeInfo2 rfl) rfl rfl (intsD_one _) ?_
 refine kN 1 rfl ?_
 refine kB (fun s7 => [(3, .vec 0 0)]) (fun s7 => [.vec 0 (intsD s7)]) h (fun s7 h => ?_) (fun s7 h => ?_)
 ·refine kR ?_
  refine kM 1 rfl ?_
  refine AOps_q 7 _ rfl rfl rfl (QOp_nilCheck_pv _ _ _ rfl rfl) ?_
  refine AOps_q 8 _ rfl rfl rfl (QOp_fieldAddr_pv _ _ _ _ _ 1 _ _ rfl Tryz.underlying34 rfl _ Tryz.sizeOf2 rfl rfl) ?_
  refine AOps_q 9 _ rfl rfl rfl (QOp_load_pv _ _ _ _ _ rfl Tryz.isAgg2 rfl rfl) ?_
  refine kN 1 rfl ?_
  refine ACode_block ?_
  refine ACode_loopW (fun k0 E H => ∃ (x1 : Int) (x2 : List Int), E = [(0, .d (.pv (colD p0) 0)), (3, .vec 0 0), (9, iV p0.k), (10, iV x1)] ∧ H = [.vec 0 (intsD x2)] ∧ impl_Colouring_cliqueNumbers_l0 k p0 k0 x1 x2 = some s7) k _ _ (Weak_keep 0 hm [0, 3, 9, 10] [0] _ _ rfl rfl rfl) ⟨_, _, rfl, rfl, h⟩ ?_
  clear h
  rintro k0 E H ⟨x1, x2, rfl, rfl, h⟩
  cases k0 with
  | zero => cases (show (none : Option (List Int)) = some _ from h)
  | succ k0 =>
   rw [impl_Colouring_cliqueNumbers_l0] at h
   refine kR ?_
   refine AOps_q 11 _ rfl rfl rfl (QOp_lss _ _ _ _ _ _ _ rfl rfl rfl) ?_
   refine AOps_nil ?_
   refine ACode_seq ?_
   refine kI h rfl (fun h _ => ?_) (fun h _ => ?_)
   ·refine ACode_skip ?_
    refine ACode_seq ?_
    refine ACode_block ?_
    refine kR ?_
    refine kN 2 rfl ?_
    refine (ACode_region ?_)
    refine kM 3 rfl ?_
    obtain ⟨r4, hr4, h⟩ := bindO h
    refine kC [] 16 (.d (.sl none (intsD r4))) [.vec 0 (intsD x2)] rfl Tryz.call138 rfl rfl (impl_Colouring_greatest_ac k p0 x1 _ hr4) rfl ?_
    refine kC [] 17 (iV (impl_size r4)) [.vec 0 (intsD x2)] rfl Tryz.call63 rfl rfl (impl_size_ac r4) rfl ?_
    refine AOps_buildSlice 18 _ _ _ [_] (intsD ([(impl_size r4)])) _ rfl rfl rfl rfl rfl (by decide) Tryz.underlying27 Tryz.sizeOf2 (zero_of Tryz.typeInfo2 rfl) rfl rfl (intsD_one _) ?_
    obtain ⟨hc6, h⟩ := guardO h
    refine AOps_append 19 _ _ _ _ _ _ _ _ _ _ _ _ rfl rfl rfl rfl rfl rfl rfl Tryz.underlying27 Tryz.type2 rfl rfl rfl (by decide) rfl rfl rfl rfl (intsD_one _) (by rw [intsD_length, intsD_length]; exact hc6) ?_
    rw [intsD_app]
    refine kN 1 rfl ?_
    refine (ACode_region ?_)
    refine AOps_q 20 _ rfl rfl rfl (QOp_add _ _ _ _ _ _ _ rfl rfl rfl) ?_
    refine kN 1 rfl ?_
    exact ⟨k0, _, _, Nat.lt_succ_self _, Weak_trans (Weak_keep 0 hm [0, 3, 9, 10] [0] _ _ rfl rfl rfl) (Weak_reset 0 hm hz [0, 3, 9, 10] _ _ rfl rfl), _, _, rfl, rfl, h⟩
   refine ACode_exit ?_
   cases h
   exact Weak_keep 0 hm [3] [0] _ _ rfl rfl rfl
 refine kR ?_
 refine kN 2 rfl ?_
 refine ACode_ret ?_
 cases h
 exact ⟨_, _, Weak_reset 0 hm hz [2] _ _ rfl rfl, _, _, [0], _, (.cons (ResV_tmp _ _ rfl) .nil), rfl, rfl, rfl, rfl, rfl⟩

-- loop.example/g01362/impl.CliqueNumbers
def impl_CliqueNumbers (k : Nat) (p0 : Col) : Option (Option (List Int) × Int) :=
 (impl_Colouring_code k p0 (some (impl_always))).bind fun r1 => (if !decide (r1 = 0) then some (none, r1) else (impl_Colouring_cliqueNumbers k p0).bind fun r3 => some (some r3, 0))
set_option maxRecDepth 100000 in
theorem impl_CliqueNumbers_ac (k : Nat) (p0 : Col) (r : Option (List Int) × Int) (h : impl_CliqueNumbers k p0 = some r) : AC Tryz.prog 31 [.d (.agg (colD p0))] [] (fun res H' => res = [ownA 0 (r.1.map intsD), iV r.2] ∧ H' = [] ++ ownH (r.1.map intsD)) := by
 refine AC_of_body false Tryz.func31 rfl Tryz.ntmps31 (rvs := [.tmp 2, .tmp 3]) rfl rfl (fun G hG => ?_)
 have hm : G.H.length = 0 := by rw [hG]; rfl
 have hz : zeroG G.H = true := by rw [hG]; rfl
 unfold impl_CliqueNumbers at h
 refine kR ?_
 refine AOps_boxI 1 _ _ (.agg (colD p0)) (colD p0) rfl (colD_one _) rfl rfl rfl rfl rfl ?_
 refine kN 2 rfl ?_
 refine ACode_seq ?_
 refine kR ?_
 obtain ⟨r1, hr1, h⟩ := bindO h
 refine kC [] 5 (iV r1) [] rfl Tryz.call80 rfl rfl (impl_Colouring_code_ac k p0 (some (impl_always)) 81 ([]) Tryz.call81 (fun r h => by cases h; exact impl_always_ac) _ hr1) rfl ?_
 refine kN 1 rfl ?_
 refine kR ?_
 refine kM 1 rfl ?_
 refine AOps_q 7 _ rfl rfl rfl (QOp_neq _ _ _ _ _ _ _ rfl rfl rfl) ?_
 refine AOps_nil ?_
 refine kI h rfl (fun h _ => ?_) (fun h _ => ?_)
 ·refine kR ?_
  refine kN 3 rfl ?_
  refine ACode_ret ?_
  cases h
  exact ⟨_, _, fun r a w h => ⟨r, h⟩, _, _, [], _, (.cons (ResV_tmp _ _ rfl) (.cons (ResV_tmp _ _ rfl) .nil)), rfl, rfl, rfl, rfl, rfl⟩
 refine ACode_skip ?_
 refine kR ?_
 obtain ⟨r3, hr3, h⟩ := bindO h
 refine kC [] 9 (.vec 0 0) [.vec 0 (intsD r3)] rfl Tryz.call82 rfl rfl (impl_Colouring_cliqueNumbers_ac k p0 _ hr3) rfl ?_
 refine kN 2 rfl ?_
 refine ACode_ret ?_
 cases h
 exact ⟨_, _, Weak_reset 0 hm hz [2, 3] _ _ rfl rfl, _, _, [0], _, (.cons (ResV_tmp _ _ rfl) (.cons (ResV_tmp _ _ rfl) .nil)), rfl, rfl, rfl, rfl, rfl⟩

-- loop.example/g01362/laws.likeInts
def laws_likeInts_l0 (p0 : List Int) (p1 : List Int) : Nat → Int → Option (Sum (Unit) (Bool))
 | 0, _ => none
 | k0 + 1, x2 => (if decide (x2 < (p0.length : Int)) then (if 0 ≤ x2 ∧ x2 < (p0.length : Int) then (if 0 ≤ x2 ∧ x2 < (p1.length : Int) then (if !decide ((p0.getD x2.toNat 0) = (p1.getD x2.toNat 0)) then some (.inr false) else laws_likeInts_l0 p0 p1 k0 (w64 (x2 + 1))) else none) else none) else some (.inl ()))
def laws_likeInts (k : Nat) (p0 : List Int) (p1 : List Int) : Option (Bool) :=
 (if !decide ((p0.length : Int) = (p1.length : Int)) then some false else (laws_likeInts_l0 p0 p1 k 0 : Option (Sum (Unit) (Bool))).bind fun os7 => (match os7 with | .inl s7 => some true | .inr rr => some rr))
set_option maxRecDepth 100000 in
theorem laws_likeInts_ac (k : Nat) (p0 : List Int) (p1 : List Int) (r : Bool) (h : laws_likeInts k p0 p1 = some r) : AC Tryz.prog 32 [.d (.sl none (intsD p0)), .d (.sl none (intsD p1))] [] (fun res H' => res = [bV r] ∧ H' = []) := by
 refine AC_of_body true Tryz.func32 rfl Tryz.ntmps32 (rvs := [.tmp 4]) rfl rfl (fun G hG => ?_)
 have hm : G.H.length = 0 := by rw [hG]; rfl
 have hz : zeroG G.H = true := by rw [hG]; rfl
 unfold laws_likeInts at h
 refine kR ?_
 refine kN 1 rfl ?_
 refine ACode_seq ?_
 refine kR ?_
 refine kM 1 rfl ?_
 refine AOps_q 7 _ rfl rfl rfl (QOp_len_sl _ _ _ _ _ _ _ (intsD_length _) rfl rfl rfl rfl Tryz.underlying27 rfl) ?_
 refine kM 1 rfl ?_
 refine AOps_q 9 _ rfl rfl rfl (QOp_len_sl _ _ _ _ _ _ _ (intsD_length _) rfl rfl rfl rfl Tryz.underlying27 rfl) ?_
 refine AOps_q 10 _ rfl rfl rfl (QOp_neq _ _ _ _ _ _ _ rfl rfl rfl) ?_
 refine AOps_nil ?_
 refine kI h rfl (fun h _ => ?_) (fun h _ => ?_)
 ·refine kR ?_
  refine kN 1 rfl ?_
  refine ACode_ret ?_
  cases h
  exact ⟨_, _, fun r a w h => ⟨r, h⟩, _, _, [], _, (.cons (ResV_tmp _ _ rfl) .nil), rfl, rfl, rfl, rfl, rfl⟩
 refine ACode_skip ?_
 refine kO (fun s7 => []) (fun s7 => []) h (fun os7 h hks7 => ?_) (fun s7 h => ?_)
 ·refine kR ?_
  refine kN 1 rfl ?_
  refine ACode_block ?_
  refine ACode_loopW (fun k0 E H => ∃ (x2 : Int), E = [(0, .d (.sl none (intsD p0))), (1, .d (.sl none (intsD p1))), (5, iV x2)] ∧ H = [] ∧ laws_likeInts_l0 p0 p1 k0 x2 = some os7) k _ _ (Weak_keep 0 hm [0, 1, 5] [] _ _ rfl rfl rfl) ⟨_, rfl, rfl, h⟩ ?_
  clear h
  rintro k0 E H ⟨x2, rfl, rfl, h⟩
  cases k0 with
  | zero => cases (show (none : Option (Sum (Unit) (Bool))) = some _ from h)
  | succ k0 =>
   rw [laws_likeInts_l0] at h
   refine ACode_seq ?_
   refine kR ?_
   refine kM 2 rfl ?_
   refine AOps_q 13 _ rfl rfl rfl (QOp_len_sl _ _ _ _ _ _ _ (intsD_length _) rfl rfl rfl rfl Tryz.underlying27 rfl) ?_
   refine AOps_q 14 _ rfl rfl rfl (QOp_lss _ _ _ _ _ _ _ rfl rfl rfl) ?_
   refine AOps_nil ?_
   refine kI h rfl (fun h _ => ?_) (fun h _ => ?_)
   ·refine ACode_skip ?_
    refine ACode_seq ?_
    refine ACode_block ?_
    refine ACode_seq (ACode_quiet mixed (by kernel_rfl) ?_)
    refine kQ 2 rfl ?_
    obtain ⟨hc4, h⟩ := guardO h
    refine AQ_q 19 _ rfl rfl rfl (QOp_indexAddr_sl _ _ _ _ _ _ _ _ rfl Tryz.underlying27 Tryz.sizeOf2 hc4.1 (by rw [intsD_length]; exact hc4.2) rfl rfl) ?_
    refine AQ_q 20 _ rfl rfl rfl (QOp_load_pv _ _ _ _ _ rfl Tryz.isAgg2 rfl (intsD_get _ _ 0 (by omega))) ?_
    refine kQ 2 rfl ?_
    obtain ⟨hc5, h⟩ := guardO h
    refine AQ_q 23 _ rfl rfl rfl (QOp_indexAddr_sl _ _ _ _ _ _ _ _ rfl Tryz.underlying27 Tryz.sizeOf2 hc5.1 (by rw [intsD_length]; exact hc5.2) rfl rfl) ?_
    refine AQ_q 24 _ rfl rfl rfl (QOp_load_pv _ _ _ _ _ rfl Tryz.isAgg2 rfl (intsD_get _ _ 0 (by omega))) ?_
    refine AQ_q 25 _ rfl rfl rfl (QOp_neq _ _ _ _ _ _ _ rfl rfl rfl) ?_
    refine AQ_nil ?_
    refine kI h rfl (fun h _ => ?_) (fun h _ => ?_)
    ·refine kR ?_
     refine kN 1 rfl ?_
     refine ACode_ret ?_
     cases h
     have h := hks7
     cases h
     exact ⟨_, _, fun r a w h => ⟨r, h⟩, _, _, [], _, (.cons (ResV_tmp _ _ rfl) .nil), rfl, rfl, rfl, rfl, rfl⟩
    refine ACode_skip ?_
    refine (ACode_region ?_)
    refine kM 1 rfl ?_
    refine AOps_q 16 _ rfl rfl rfl (QOp_add _ _ _ _ _ _ _ rfl rfl rfl) ?_
    refine kN 1 rfl ?_
    exact ⟨k0, _, _, Nat.lt_succ_self _, Weak_keep 0 hm [0, 1, 5] [] _ _ rfl rfl rfl, _, rfl, rfl, h⟩
   refine ACode_exit ?_
   cases h
   exact ⟨_, rfl, Weak_keep 0 hm [] [] _ _ rfl rfl rfl⟩
 refine kR ?_
 refine kN 1 rfl ?_
 refine ACode_ret ?_
 cases h
 exact ⟨_, _, fun r a w h => ⟨r, h⟩, _, _, [], _, (.cons (ResV_tmp _ _ rfl) .nil), rfl, rfl, rfl, rfl, rfl⟩

-- loop.example/g01362/laws.FnBounds
def laws_FnBounds (k : Nat) (p0 : List UInt8) : Option (Bool) :=
 (if (laws_big p0) then some true else (spec_DrawKnownNumber k p0).bind fun r3 => (impl_KnownNumber r3.1 r3.2).bind fun r4 => ((spec_KnownNumber r3.1 r3.2).bind fun r5 => letO (if !decide (r4.2 = r5.2) then true else !decide (r4.1 = r5.1)) fun (s7 : Bool) => (if s7 then some (.inr false) else some (.inl ())) : Option (Sum (Unit) (Bool))).bind fun os9 => (match os9 with | .inl s9 => (spec_DrawNeighbourBound k p0).bind fun r10 => (impl_NeighbourBound k r10).bind fun r11 => ((spec_NeighbourBound k r10).bind fun r12 => letO (if !decide (r11.2 = r12.2) then true else !decide (r11.1 = r12.1)) fun (s14 : Bool) => (if s14 then some (.inr false) else some (.inl ())) : Option (Sum (Unit) (Bool))).bind fun os16 => (match os16 with | .inl s16 => (spec_DrawBinomialBound k p0).bind fun r17 => (impl_BinomialBound k r17.1 r17.2).bind fun r18 => ((spec_BinomialBound k r17.1 r17.2).bind fun r19 => letO (if !decide (r18.2 = r19.2) then true else !decide (r18.1 = r19.1)) fun (s21 : Bool) => (if s21 then some (.inr false) else some (.inl ())) : Option (Sum (Unit) (Bool))).bind fun os23 => (match os23 with | .inl s23 => (spec_DrawCountingBound k p0).bind fun r24 => (impl_CountingBound k r24).bind fun r25 => ((spec_CountingBound k r24).bind fun r26 => letO (if !decide (r25.2 = r26.2) then true else !decide (r25.1 = r26.1)) fun (s28 : Bool) => (if s28 then some (.inr false) else some (.inl ())) : Option (Sum (Unit) (Bool))).bind fun os30 => (match os30 with | .inl s30 => (spec_DrawTriangleBound k p0).bind fun r31 => (impl_TriangleBound k r31).bind fun r32 => ((spec_TriangleBound k r31).bind fun r33 => letO (if !decide (r32.2 = r33.2) then true else !decide (r32.1 = r33.1)) fun (s35 : Bool) => (if s35 then some (.inr false) else some (.inl ())) : Option (Sum (Unit) (Bool))).bind fun os37 => (match os37 with | .inl s37 => (spec_DrawStarNumber k p0).bind fun r38 => (impl_StarNumber r38.1 r38.2).bind fun r39 => ((spec_StarNumber r38.1 r38.2).bind fun r40 => letO (if !decide (r39.2 = r40.2) then true else !decide (r39.1 = r40.1)) fun (s42 : Bool) => (if s42 then some (.inr false) else some (.inl ())) : Option (Sum (Unit) (Bool))).bind fun os44 => (match os44 with | .inl s44 => (spec_DrawMatchingNumber k p0).bind fun r45 => ((spec_MatchingNumber r45.1 r45.2).bind fun r47 => letO (if !decide ((impl_MatchingNumber r45.1 r45.2).2 = r47.2) then true else !decide ((impl_MatchingNumber r45.1 r45.2).1 = r47.1)) fun (s49 : Bool) => (if s49 then some (.inr false) else some (.inl ())) : Option (Sum (Unit) (Bool))).bind fun os51 => (match os51 with | .inl s51 => (spec_DrawProductColouring k p0).bind fun r52 => (impl_ProductColouring k r52.1 r52.2).bind fun r53 => ((spec_ProductColouring k r52.1 r52.2).bind fun r54 => letO (if !decide (r53.2 = r54.2) then true else !(r53.1.eqb r54.1)) fun (s56 : Bool) => (if s56 then some (.inr false) else some (.inl ())) : Option (Sum (Unit) (Bool))).bind fun os58 => (match os58 with | .inl s58 => ((if decide (r53.2 = 0) then (impl_CliqueNumbers k r52.1).bind fun r60 => (impl_CliqueNumbers k r52.2).bind fun r61 => (impl_CliqueNumbers k r53.1).bind fun r62 => ((if !decide (r60.2 = 0) then some true else (if !decide (r61.2 = 0) then some true else (if !decide (r62.2 = 0) then some true else (if ([] : List Int).length + (r60.1.getD []).length ≤ 1099511627776 then (if (([] : List Int) ++ (r60.1.getD [])).length + (r61.1.getD []).length ≤ 1099511627776 then (laws_likeInts k (r62.1.getD []) ((([] : List Int) ++ (r60.1.getD [])) ++ (r61.1.getD []))).bind fun r68 => some (!r68) else none) else none)))) : Option (Bool)).bind fun s69 => (if s69 then some (.inr false) else some (.inl ())) else some (.inl ())) : Option (Sum (Unit) (Bool))).bind fun os71 => (match os71 with | .inl s71 => (letO (if decide (r25.2 = 0) then decide (r24 ≤ 8) else false) fun (s73 : Bool) => (if s73 then (impl_NeighbourBound k ([r24, r24])).bind fun r75 => letO (if !decide (r75.2 = 0) then true else decide (r75.1 ≤ r25.1)) fun (s77 : Bool) => (if s77 then some (.inr false) else some (.inl ())) else some (.inl ())) : Option (Sum (Unit) (Bool))).bind fun os79 => (match os79 with | .inl s79 => (letO (if decide (r11.2 = 0) then decide ((r10.length : Int) = 2) else false) fun (s81 : Bool) => (if s81 then (if 0 ≤ (0 : Int) ∧ (0 : Int) < (r10.length : Int) then (if 0 ≤ (1 : Int) ∧ (1 : Int) < (r10.length : Int) then (impl_BinomialBound k (r10.getD (0 : Int).toNat 0) (r10.getD (1 : Int).toNat 0)).bind fun r85 => letO (if !decide (r85.2 = 0) then true else decide (r85.1 < r11.1)) fun (s87 : Bool) => (if s87 then some (.inr false) else some (.inl ())) else none) else none) else some (.inl ())) : Option (Sum (Unit) (Bool))).bind fun os89 => (match os89 with | .inl s89 => (if !decide (r4.2 = 0) then some (decide (r4.1 = 0)) else (letO (if decide (8 < r3.1) then true else decide (8 < r3.2)) fun (s92 : Bool) => (if s92 then some (.inr (decide (1 ≤ r4.1))) else some (.inl ())) : Option (Sum (Unit) (Bool))).bind fun os94 => (match os94 with | .inl s94 => (impl_NeighbourBound k ([r3.1, r3.2])).bind fun r95 => letO (if decide (r95.2 = 0) then decide (r4.1 ≤ r95.1) else false) fun (s97 : Bool) => some s97 | .inr rr => some rr)) | .inr rr => some rr) | .inr rr => some rr) | .inr rr => some rr) | .inr rr => some rr) | .inr rr => some rr) | .inr rr => some rr) | .inr rr => some rr) | .inr rr => some rr) | .inr rr => some rr) | .inr rr => some rr) | .inr rr => some rr))
set_option maxHeartbeats 2000000 in
set_option maxRecDepth 100000 in
theorem laws_FnBounds_ac (k : Nat) (p0 : List UInt8) (r : Bool) (h : laws_FnBounds k p0 = some r) : AC Tryz.prog 3 [.d (.sl none (bysD p0))] [] (fun res H' => res = [bV r] ∧ H' = []) := by
 refine AC_of_body true Tryz.func3 rfl Tryz.ntmps3 (rvs := [.tmp 2]) rfl rfl (fun G hG => ?_)
 have hm : G.H.length = 0 := by rw [hG]; rfl
 have hz : zeroG G.H = true := by rw [hG]; rfl
 unfold laws_FnBounds at h
 refine kR ?_
 refine kN 1 rfl ?_
 refine ACode_seq ?_
 refine kR ?_
 refine kM 1 rfl ?_
 refine kC [] 61 (bV (laws_big p0)) [] rfl Tryz.call6 rfl rfl (laws_big_ac p0) rfl ?_
 refine AOps_nil ?_
 refine kI h rfl (fun h _ => ?_) (fun h _ => ?_)
 ·refine kR ?_
  refine kN 1 rfl ?_
  refine ACode_ret ?_
  cases h
  exact ⟨_, _, fun r a w h => ⟨r, h⟩, _, _, [], _, (.cons (ResV_tmp _ _ rfl) .nil), rfl, rfl, rfl, rfl, rfl⟩
 refine ACode_skip ?_
 refine kR ?_
 refine kM 1 rfl ?_
 obtain ⟨r3, hr3, h⟩ := bindO h
 refine kC [] 64 (.tup [iV r3.1, iV r3.2]) [] rfl Tryz.call7 rfl rfl (spec_DrawKnownNumber_ac k p0 _ hr3) rfl ?_
 refine kN 5 rfl ?_
 refine kR ?_
 refine kM 2 rfl ?_
 obtain ⟨r4, hr4, h⟩ := bindO h
 refine kC [] 70 (.tup [iV r4.1, iV r4.2]) [] rfl Tryz.call8 rfl rfl (impl_KnownNumber_ac r3.1 r3.2 _ hr4) rfl ?_
 refine kN 5 rfl ?_
 refine kO (fun s9 => [(0, .d (.sl none (bysD p0))), (3, iV r3.1), (4, iV r3.2), (5, iV r4.1), (6, iV r4.2)]) (fun s9 => []) h (fun os9 h hks9 => ?_) (fun s9 h => ?_)
 ·refine kR ?_
  refine kM 2 rfl ?_
  obtain ⟨r5, hr5, h⟩ := bindO h
  refine kC [] 76 (.tup [iV r5.1, iV r5.2]) [] rfl Tryz.call9 rfl rfl (spec_KnownNumber_ac r3.1 r3.2 _ hr5) rfl ?_
  refine kN 5 rfl ?_
  refine kL (fun s7 => [(0, .d (.sl none (bysD p0))), (3, iV r3.1), (4, iV r3.2), (5, iV r4.1), (6, iV r4.2), (86, bV s7)]) (fun s7 => []) h (fun s7 h => ?_) (fun s7 h => ?_)
  ·refine (ACode_region ?_)
   refine kM 2 rfl ?_
   refine AOps_q 81 _ rfl rfl rfl (QOp_neq _ _ _ _ _ _ _ rfl rfl rfl) ?_
   refine kM 1 rfl ?_
   refine AOps_case 82 _ rfl (fun hb6 => ?_) (fun hb6 => ?_)
   ·have h := iteT hb6 h
    refine AOps_skip 83 rfl rfl rfl ?_
    refine AOps_skip 84 rfl rfl rfl ?_
    refine AOps_skip 85 rfl rfl rfl ?_
    refine kN 1 rfl ?_
    cases h
    exact Weak_keep 0 hm [0, 3, 4, 5, 6, 86] [] _ _ rfl rfl rfl
   have h := iteF hb6 h
   refine kM 2 rfl ?_
   refine AOps_q 85 _ rfl rfl rfl (QOp_neq _ _ _ _ _ _ _ rfl rfl rfl) ?_
   refine kN 1 rfl ?_
   cases h
   exact Weak_keep 0 hm [0, 3, 4, 5, 6, 86] [] _ _ rfl rfl rfl
  refine kI h rfl (fun h _ => ?_) (fun h _ => ?_)
  ·refine kR ?_
   refine kN 1 rfl ?_
   refine ACode_ret ?_
   cases h
   have h := hks9
   cases h
   exact ⟨_, _, fun r a w h => ⟨r, h⟩, _, _, [], _, (.cons (ResV_tmp _ _ rfl) .nil), rfl, rfl, rfl, rfl, rfl⟩
  refine ACode_skip ?_
  cases h
  exact ⟨_, rfl, Weak_keep 0 hm [0, 3, 4, 5, 6] [] _ _ rfl rfl rfl⟩
 refine kR ?_
 refine kM 1 rfl ?_
 obtain ⟨r10, hr10, h⟩ := bindO h
 refine kC [] 88 (.d (.sl none (intsD r10))) [] rfl Tryz.call10 rfl rfl (AC_frzV frz_nil (spec_DrawNeighbourBound_ac k p0 _ hr10)) rfl ?_
 refine kN 1 rfl ?_
 refine kR ?_
 refine kM 1 rfl ?_
 obtain ⟨r11, hr11, h⟩ := bindO h
 refine kC [] 91 (.tup [iV r11.1, iV r11.2]) [] rfl Tryz.call11 rfl rfl (impl_NeighbourBound_ac k r10 _ hr11) rfl ?_
 refine kN 5 rfl ?_
 refine kO (fun s16 => [(0, .d (.sl none (bysD p0))), (3, iV r3.1), (4, iV r3.2), (5, iV r4.1), (6, iV r4.2), (9, .d (.sl none (intsD r10))), (10, iV r11.1), (11, iV r11.2)]) (fun s16 => []) h (fun os16 h hks16 => ?_) (fun s16 h => ?_)
 ·refine kR ?_
  refine kM 1 rfl ?_
  obtain ⟨r12, hr12, h⟩ := bindO h
  refine kC [] 96 (.tup [iV r12.1, iV r12.2]) [] rfl Tryz.call12 rfl rfl (spec_NeighbourBound_ac k r10 _ hr12) rfl ?_
  refine kN 5 rfl ?_
  refine kL (fun s14 => [(0, .d (.sl none (bysD p0))), (3, iV r3.1), (4, iV r3.2), (5, iV r4.1), (6, iV r4.2), (9, .d (.sl none (intsD r10))), (10, iV r11.1), (11, iV r11.2), (106, bV s14)]) (fun s14 => []) h (fun s14 h => ?_) (fun s14 h => ?_)
  ·refine (ACode_region ?_)
   refine kM 2 rfl ?_
   refine AOps_q 101 _ rfl rfl rfl (QOp_neq _ _ _ _ _ _ _ rfl rfl rfl) ?_
   refine kM 1 rfl ?_
   refine AOps_case 102 _ rfl (fun hb13 => ?_) (fun hb13 => ?_)
   ·have h := iteT hb13 h
    refine AOps_skip 103 rfl rfl rfl ?_
    refine AOps_skip 104 rfl rfl rfl ?_
    refine AOps_skip 105 rfl rfl rfl ?_
    refine kN 1 rfl ?_
    cases h
    exact Weak_keep 0 hm [0, 3, 4, 5, 6, 9, 10, 11, 106] [] _ _ rfl rfl rfl
   have h := iteF hb13 h
   refine kM 2 rfl ?_
   refine AOps_q 105 _ rfl rfl rfl (QOp_neq _ _ _ _ _ _ _ rfl rfl rfl) ?_
   refine kN 1 rfl ?_
   cases h
   exact Weak_keep 0 hm [0, 3, 4, 5, 6, 9, 10, 11, 106] [] _ _ rfl rfl rfl
  refine kI h rfl (fun h _ => ?_) (fun h _ => ?_)
  ·refine kR ?_
   refine kN 1 rfl ?_
   refine ACode_ret ?_
   cases h
   have h := hks16
   cases h
   exact ⟨_, _, fun r a w h => ⟨r, h⟩, _, _, [], _, (.cons (ResV_tmp _ _ rfl) .nil), rfl, rfl, rfl, rfl, rfl⟩
  refine ACode_skip ?_
  cases h
  exact ⟨_, rfl, Weak_keep 0 hm [0, 3, 4, 5, 6, 9, 10, 11] [] _ _ rfl rfl rfl⟩
 refine kR ?_
 refine kM 1 rfl ?_
 obtain ⟨r17, hr17, h⟩ := bindO h
 refine kC [] 109 (.tup [iV r17.1, iV r17.2]) [] rfl Tryz.call13 rfl rfl (spec_DrawBinomialBound_ac k p0 _ hr17) rfl ?_
 refine kN 5 rfl ?_
 refine kR ?_
 refine kM 2 rfl ?_
 obtain ⟨r18, hr18, h⟩ := bindO h
 refine kC [] 115 (.tup [iV r18.1, iV r18.2]) [] rfl Tryz.call14 rfl rfl (impl_BinomialBound_ac k r17.1 r17.2 _ hr18) rfl ?_
 refine kN 5 rfl ?_
 refine kO (fun s23 => [(0, .d (.sl none (bysD p0))), (3, iV r3.1), (4, iV r3.2), (5, iV r4.1), (6, iV r4.2), (9, .d (.sl none (intsD r10))), (10, iV r11.1), (11, iV r11.2)]) (fun s23 => []) h (fun os23 h hks23 => ?_) (fun s23 h => ?_)
 ·refine kR ?_
  refine kM 2 rfl ?_
  obtain ⟨r19, hr19, h⟩ := bindO h
  refine kC [] 121 (.tup [iV r19.1, iV r19.2]) [] rfl Tryz.call15 rfl rfl (spec_BinomialBound_ac k r17.1 r17.2 _ hr19) rfl ?_
  refine kN 5 rfl ?_
  refine kL (fun s21 => [(0, .d (.sl none (bysD p0))), (3, iV r3.1), (4, iV r3.2), (5, iV r4.1), (6, iV r4.2), (9, .d (.sl none (intsD r10))), (10, iV r11.1), (11, iV r11.2), (131, bV s21)]) (fun s21 => []) h (fun s21 h => ?_) (fun s21 h => ?_)
  ·refine (ACode_region ?_)
   refine kM 2 rfl ?_
   refine AOps_q 126 _ rfl rfl rfl (QOp_neq _ _ _ _ _ _ _ rfl rfl rfl) ?_
   refine kM 1 rfl ?_
   refine AOps_case 127 _ rfl (fun hb20 => ?_) (fun hb20 => ?_)
   ·have h := iteT hb20 h
    refine AOps_skip 128 rfl rfl rfl ?_
    refine AOps_skip 129 rfl rfl rfl ?_
    refine AOps_skip 130 rfl rfl rfl ?_
    refine kN 1 rfl ?_
    cases h
    exact Weak_keep 0 hm [0, 3, 4, 5, 6, 9, 10, 11, 131] [] _ _ rfl rfl rfl
   have h := iteF hb20 h
   refine kM 2 rfl ?_
   refine AOps_q 130 _ rfl rfl rfl (QOp_neq _ _ _ _ _ _ _ rfl rfl rfl) ?_
   refine kN 1 rfl ?_
   cases h
   exact Weak_keep 0 hm [0, 3, 4, 5, 6, 9, 10, 11, 131] [] _ _ rfl rfl rfl
  refine kI h rfl (fun h _ => ?_) (fun h _ => ?_)
  ·refine kR ?_
   refine kN 1 rfl ?_
   refine ACode_ret ?_
   cases h
   have h := hks23
   cases h
   exact ⟨_, _, fun r a w h => ⟨r, h⟩, _, _, [], _, (.cons (ResV_tmp _ _ rfl) .nil), rfl, rfl, rfl, rfl, rfl⟩
  refine ACode_skip ?_
  cases h
  exact ⟨_, rfl, Weak_keep 0 hm [0, 3, 4, 5, 6, 9, 10, 11] [] _ _ rfl rfl rfl⟩
 refine kR ?_
 refine kM 1 rfl ?_
 obtain ⟨r24, hr24, h⟩ := bindO h
 refine kC [] 133 (iV r24) [] rfl Tryz.call16 rfl rfl (spec_DrawCountingBound_ac k p0 _ hr24) rfl ?_
 refine kN 1 rfl ?_
 refine kR ?_
 refine kM 1 rfl ?_
 obtain ⟨r25, hr25, h⟩ := bindO h
 refine kC [] 136 (.tup [iV r25.1, iV r25.2]) [] rfl Tryz.call17 rfl rfl (impl_CountingBound_ac k r24 _ hr25) rfl ?_
 refine kN 5 rfl ?_
 refine kO (fun s30 => [(0, .d (.sl none (bysD p0))), (3, iV r3.1), (4, iV r3.2), (5, iV r4.1), (6, iV r4.2), (9, .d (.sl none (intsD r10))), (10, iV r11.1), (11, iV r11.2), (20, iV r24), (21, iV r25.1), (22, iV r25.2)]) (fun s30 => []) h (fun os30 h hks30 => ?_) (fun s30 h => ?_)
 ·refine kR ?_
  refine kM 1 rfl ?_
  obtain ⟨r26, hr26, h⟩ := bindO h
  refine kC [] 141 (.tup [iV r26.1, iV r26.2]) [] rfl Tryz.call18 rfl rfl (spec_CountingBound_ac k r24 _ hr26) rfl ?_
  refine kN 5 rfl ?_
  refine kL (fun s28 => [(0, .d (.sl none (bysD p0))), (3, iV r3.1), (4, iV r3.2), (5, iV r4.1), (6, iV r4.2), (9, .d (.sl none (intsD r10))), (10, iV r11.1), (11, iV r11.2), (20, iV r24), (21, iV r25.1), (22, iV r25.2), (151, bV s28)]) (fun s28 => []) h (fun s28 h => ?_) (fun s28 h => ?_)
  ·refine (ACode_region ?_)
   refine kM 2 rfl ?_
   refine AOps_q 146 _ rfl rfl rfl (QOp_neq _ _ _ _ _ _ _ rfl rfl rfl) ?_
   refine kM 1 rfl ?_
   refine AOps_case 147 _ rfl (fun hb27 => ?_) (fun hb27 => ?_)
   ·have h := iteT hb27 h
    refine AOps_skip 148 rfl rfl rfl ?_
    refine AOps_skip 149 rfl rfl rfl ?_
    refine AOps_skip 150 rfl rfl rfl ?_
    refine kN 1 rfl ?_
    cases h
    exact Weak_keep 0 hm [0, 3, 4, 5, 6, 9, 10, 11, 20, 21, 22, 151] [] _ _ rfl rfl rfl
   have h := iteF hb27 h
   refine kM 2 rfl ?_
   refine AOps_q 150 _ rfl rfl rfl (QOp_neq _ _ _ _ _ _ _ rfl rfl rfl) ?_
   refine kN 1 rfl ?_
   cases h
   exact Weak_keep 0 hm [0, 3, 4, 5, 6, 9, 10, 11, 20, 21, 22, 151] [] _ _ rfl rfl rfl
  refine kI h rfl (fun h _ => ?_) (fun h _ => ?_)
  ·refine kR ?_
   refine kN 1 rfl ?_
   refine ACode_ret ?_
   cases h
   have h := hks30
   cases h
   exact ⟨_, _, fun r a w h => ⟨r, h⟩, _, _, [], _, (.cons (ResV_tmp _ _ rfl) .nil), rfl, rfl, rfl, rfl, rfl⟩
  refine ACode_skip ?_
  cases h
  exact ⟨_, rfl, Weak_keep 0 hm [0, 3, 4, 5, 6, 9, 10, 11, 20, 21, 22] [] _ _ rfl rfl rfl⟩
 refine kR ?_
 refine kM 1 rfl ?_
 obtain ⟨r31, hr31, h⟩ := bindO h
 refine kC [] 153 (iV r31) [] rfl Tryz.call19 rfl rfl (spec_DrawTriangleBound_ac k p0 _ hr31) rfl ?_
 refine kN 1 rfl ?_
 refine kR ?_
 refine kM 1 rfl ?_
 obtain ⟨r32, hr32, h⟩ := bindO h
 refine kC [] 156 (.tup [iV r32.1, iV r32.2]) [] rfl Tryz.call20 rfl rfl (impl_TriangleBound_ac k r31 _ hr32) rfl ?_
 refine kN 5 rfl ?_
 refine kO (fun s37 => [(0, .d (.sl none (bysD p0))), (3, iV r3.1), (4, iV r3.2), (5, iV r4.1), (6, iV r4.2), (9, .d (.sl none (intsD r10))), (10, iV r11.1), (11, iV r11.2), (20, iV r24), (21, iV r25.1), (22, iV r25.2)]) (fun s37 => []) h (fun os37 h hks37 => ?_) (fun s37 h => ?_)
 ·refine kR ?_
  refine kM 1 rfl ?_
  obtain ⟨r33, hr33, h⟩ := bindO h
  refine kC [] 161 (.tup [iV r33.1, iV r33.2]) [] rfl Tryz.call21 rfl rfl (spec_TriangleBound_ac k r31 _ hr33) rfl ?_
  refine kN 5 rfl ?_
  refine kL (fun s35 => [(0, .d (.sl none (bysD p0))), (3, iV r3.1), (4, iV r3.2), (5, iV r4.1), (6, iV r4.2), (9, .d (.sl none (intsD r10))), (10, iV r11.1), (11, iV r11.2), (20, iV r24), (21, iV r25.1), (22, iV r25.2), (171, bV s35)]) (fun s35 => []) h (fun s35 h => ?_) (fun s35 h => ?_)
  ·refine (ACode_region ?_)
   refine kM 2 rfl ?_
   refine AOps_q 166 _ rfl rfl rfl (QOp_neq _ _ _ _ _ _ _ rfl rfl rfl) ?_
   refine kM 1 rfl ?_
   refine AOps_case 167 _ rfl (fun hb34 => ?_) (fun hb34 => ?_)
   ·have h := iteT hb34 h
    refine AOps_skip 168 rfl rfl rfl ?_
    refine AOps_skip 169 rfl rfl rfl ?_
    refine AOps_skip 170 rfl rfl rfl ?_
    refine kN 1 rfl ?_
    cases h
    exact Weak_keep 0 hm [0, 3, 4, 5, 6, 9, 10, 11, 20, 21, 22, 171] [] _ _ rfl rfl rfl
   have h := iteF hb34 h
   refine kM 2 rfl ?_
   refine AOps_q 170 _ rfl rfl rfl (QOp_neq _ _ _ _ _ _ _ rfl rfl rfl) ?_
   refine kN 1 rfl ?_
   cases h
   exact Weak_keep 0 hm [0, 3, 4, 5, 6, 9, 10, 11, 20, 21, 22, 171] [] _ _ rfl rfl rfl
  refine kI h rfl (fun h _ => ?_) (fun h _ => ?_)
  ·refine kR ?_
   refine kN 1 rfl ?_
   refine ACode_ret ?_
   cases h
   have h := hks37
   cases h
   exact ⟨_, _, fun r a w h => ⟨r, h⟩, _, _, [], _, (.cons (ResV_tmp _ _ rfl) .nil), rfl, rfl, rfl, rfl, rfl⟩
  refine ACode_skip ?_
  cases h
  exact ⟨_, rfl, Weak_keep 0 hm [0, 3, 4, 5, 6, 9, 10, 11, 20, 21, 22] [] _ _ rfl rfl rfl⟩
 refine kR ?_
 refine kM 1 rfl ?_
 obtain ⟨r38, hr38, h⟩ := bindO h
 refine kC [] 174 (.tup [iV r38.1, iV r38.2]) [] rfl Tryz.call22 rfl rfl (spec_DrawStarNumber_ac k p0 _ hr38) rfl ?_
 refine kN 5 rfl ?_
 refine kR ?_
 refine kM 2 rfl ?_
 obtain ⟨r39, hr39, h⟩ := bindO h
 refine kC [] 180 (.tup [iV r39.1, iV r39.2]) [] rfl Tryz.call23 rfl rfl (impl_StarNumber_ac r38.1 r38.2 _ hr39) rfl ?_
 refine kN 5 rfl ?_
 refine kO (fun s44 => [(0, .d (.sl none (bysD p0))), (3, iV r3.1), (4, iV r3.2), (5, iV r4.1), (6, iV r4.2), (9, .d (.sl none (intsD r10))), (10, iV r11.1), (11, iV r11.2), (20, iV r24), (21, iV r25.1), (22, iV r25.2)]) (fun s44 => []) h (fun os44 h hks44 => ?_) (fun s44 h => ?_)
 ·refine kR ?_
  refine kM 2 rfl ?_
  obtain ⟨r40, hr40, h⟩ := bindO h
  refine kC [] 186 (.tup [iV r40.1, iV r40.2]) [] rfl Tryz.call24 rfl rfl (spec_StarNumber_ac r38.1 r38.2 _ hr40) rfl ?_
  refine kN 5 rfl ?_
  refine kL (fun s42 => [(0, .d (.sl none (bysD p0))), (3, iV r3.1), (4, iV r3.2), (5, iV r4.1), (6, iV r4.2), (9, .d (.sl none (intsD r10))), (10, iV r11.1), (11, iV r11.2), (20, iV r24), (21, iV r25.1), (22, iV r25.2), (196, bV s42)]) (fun s42 => []) h (fun s42 h => ?_) (fun s42 h => ?_)
  ·refine (ACode_region ?_)
   refine kM 2 rfl ?_
   refine AOps_q 191 _ rfl rfl rfl (QOp_neq _ _ _ _ _ _ _ rfl rfl rfl) ?_
   refine kM 1 rfl ?_
   refine AOps_case 192 _ rfl (fun hb41 => ?_) (fun hb41 => ?_)
   ·have h := iteT hb41 h
    refine AOps_skip 193 rfl rfl rfl ?_
    refine AOps_skip 194 rfl rfl rfl ?_
    refine AOps_skip 195 rfl rfl rfl ?_
    refine kN 1 rfl ?_
    cases h
    exact Weak_keep 0 hm [0, 3, 4, 5, 6, 9, 10, 11, 20, 21, 22, 196] [] _ _ rfl rfl rfl
   have h := iteF hb41 h
   refine kM 2 rfl ?_
   refine AOps_q 195 _ rfl rfl rfl (QOp_neq _ _ _ _ _ _ _ rfl rfl rfl) ?_
   refine kN 1 rfl ?_
   cases h
   exact Weak_keep 0 hm [0, 3, 4, 5, 6, 9, 10, 11, 20, 21, 22, 196] [] _ _ rfl rfl rfl
  refine kI h rfl (fun h _ => ?_) (fun h _ => ?_)
  ·refine kR ?_
   refine kN 1 rfl ?_
   refine ACode_ret ?_
   cases h
   have h := hks44
   cases h
   exact ⟨_, _, fun r a w h => ⟨r, h⟩, _, _, [], _, (.cons (ResV_tmp _ _ rfl) .nil), rfl, rfl, rfl, rfl, rfl⟩
  refine ACode_skip ?_
  cases h
  exact ⟨_, rfl, Weak_keep 0 hm [0, 3, 4, 5, 6, 9, 10, 11, 20, 21, 22] [] _ _ rfl rfl rfl⟩
 refine kR ?_
 refine kM 1 rfl ?_
 obtain ⟨r45, hr45, h⟩ := bindO h
 refine kC [] 199 (.tup [iV r45.1, iV r45.2]) [] rfl Tryz.call25 rfl rfl (spec_DrawMatchingNumber_ac k p0 _ hr45) rfl ?_
 refine kN 5 rfl ?_
 refine kR ?_
 refine kM 2 rfl ?_
 refine kC [] 205 (.tup [iV ((impl_MatchingNumber r45.1 r45.2).1), iV ((impl_MatchingNumber r45.1 r45.2).2)]) [] rfl Tryz.call26 rfl rfl (impl_MatchingNumber_ac r45.1 r45.2) rfl ?_
 refine kN 5 rfl ?_
 refine kO (fun s51 => [(0, .d (.sl none (bysD p0))), (3, iV r3.1), (4, iV r3.2), (5, iV r4.1), (6, iV r4.2), (9, .d (.sl none (intsD r10))), (10, iV r11.1), (11, iV r11.2), (20, iV r24), (21, iV r25.1), (22, iV r25.2)]) (fun s51 => []) h (fun os51 h hks51 => ?_) (fun s51 h => ?_)
 ·refine kR ?_
  refine kM 2 rfl ?_
  obtain ⟨r47, hr47, h⟩ := bindO h
  refine kC [] 211 (.tup [iV r47.1, iV r47.2]) [] rfl Tryz.call27 rfl rfl (spec_MatchingNumber_ac r45.1 r45.2 _ hr47) rfl ?_
  refine kN 5 rfl ?_
  refine kL (fun s49 => [(0, .d (.sl none (bysD p0))), (3, iV r3.1), (4, iV r3.2), (5, iV r4.1), (6, iV r4.2), (9, .d (.sl none (intsD r10))), (10, iV r11.1), (11, iV r11.2), (20, iV r24), (21, iV r25.1), (22, iV r25.2), (221, bV s49)]) (fun s49 => []) h (fun s49 h => ?_) (fun s49 h => ?_)
  ·refine (ACode_region ?_)
   refine kM 2 rfl ?_
   refine AOps_q 216 _ rfl rfl rfl (QOp_neq _ _ _ _ _ _ _ rfl rfl rfl) ?_
   refine kM 1 rfl ?_
   refine AOps_case 217 _ rfl (fun hb48 => ?_) (fun hb48 => ?_)
   ·have h := iteT hb48 h
    refine AOps_skip 218 rfl rfl rfl ?_
    refine AOps_skip 219 rfl rfl rfl ?_
    refine AOps_skip 220 rfl rfl rfl ?_
    refine kN 1 rfl ?_
    cases h
    exact Weak_keep 0 hm [0, 3, 4, 5, 6, 9, 10, 11, 20, 21, 22, 221] [] _ _ rfl rfl rfl
   have h := iteF hb48 h
   refine kM 2 rfl ?_
   refine AOps_q 220 _ rfl rfl rfl (QOp_neq _ _ _ _ _ _ _ rfl rfl rfl) ?_
   refine kN 1 rfl ?_
   cases h
   exact Weak_keep 0 hm [0, 3, 4, 5, 6, 9, 10, 11, 20, 21, 22, 221] [] _ _ rfl rfl rfl
  refine kI h rfl (fun h _ => ?_) (fun h _ => ?_)
  ·refine kR ?_
   refine kN 1 rfl ?_
   refine ACode_ret ?_
   cases h
   have h := hks51
   cases h
   exact ⟨_, _, fun r a w h => ⟨r, h⟩, _, _, [], _, (.cons (ResV_tmp _ _ rfl) .nil), rfl, rfl, rfl, rfl, rfl⟩
  refine ACode_skip ?_
  cases h
  exact ⟨_, rfl, Weak_keep 0 hm [0, 3, 4, 5, 6, 9, 10, 11, 20, 21, 22] [] _ _ rfl rfl rfl⟩
 refine kR ?_
 refine kM 1 rfl ?_
 obtain ⟨r52, hr52, h⟩ := bindO h
 refine kC [] 224 (.tup [.d (.agg (colD r52.1)), .d (.agg (colD r52.2))]) [] rfl Tryz.call28 rfl rfl (spec_DrawProductColouring_ac k p0 _ hr52) rfl ?_
 refine kM 3 rfl ?_
 refine AOps_alloc 42 _ _ (colD Col.zero) (zero_of Tryz.typeInfo34 rfl) (by rfl) rfl rfl rfl rfl ?_
 refine AOps_alloc 43 _ _ (colD Col.zero) (zero_of Tryz.typeInfo34 rfl) (by rfl) rfl rfl rfl rfl ?_
 refine AOps_store _ _ _ _ _ _ (colD _) _ _ rfl rfl rfl rfl rfl rfl rfl (colD_one _) (by rw [colD_length]; exact Tryz.sizeOf34) (by rw [colD_length, colD_length]; decide) (colD_whole _ _) ?_
 refine AOps_store _ _ _ _ _ _ (colD _) _ _ rfl rfl rfl rfl rfl rfl rfl (colD_one _) (by rw [colD_length]; exact Tryz.sizeOf34) (by rw [colD_length, colD_length]; decide) (colD_whole _ _) ?_
 refine AOps_nil ?_
 refine kR ?_
 refine AOps_q 228 _ rfl rfl rfl (QOp_loadN_ptr _ _ _ _ _ _ _ rfl Tryz.isAgg34 Tryz.sizeOf34 rfl rfl (colD_all _) (colD_length _)) ?_
 refine AOps_q 229 _ rfl rfl rfl (QOp_loadN_ptr _ _ _ _ _ _ _ rfl Tryz.isAgg34 Tryz.sizeOf34 rfl rfl (colD_all _) (colD_length _)) ?_
 obtain ⟨r53, hr53, h⟩ := bindO h
 refine kC [] 230 (.tup [.d (.agg (colD r53.1)), iV r53.2]) [.box (colD r52.1), .box (colD r52.2)] rfl Tryz.call29 rfl rfl (impl_ProductColouring_ac k r52.1 r52.2 _ hr53) rfl ?_
 refine kM 3 rfl ?_
 refine AOps_alloc 44 _ _ (colD Col.zero) (zero_of Tryz.typeInfo34 rfl) (by rfl) rfl rfl rfl rfl ?_
 refine AOps_store _ _ _ _ _ _ (colD _) _ _ rfl rfl rfl rfl rfl rfl rfl (colD_one _) (by rw [colD_length]; exact Tryz.sizeOf34) (by rw [colD_length, colD_length]; decide) (colD_whole _ _) ?_
 refine kN 1 rfl ?_
 refine kO (fun s58 => [(3, iV r3.1), (4, iV r3.2), (5, iV r4.1), (6, iV r4.2), (9, .d (.sl none (intsD r10))), (10, iV r11.1), (11, iV r11.2), (20, iV r24), (21, iV r25.1), (22, iV r25.2), (42, .ptr 0 0), (43, .ptr 1 0), (44, .ptr 2 0), (45, iV r53.2)]) (fun s58 => [.box (colD r52.1), .box (colD r52.2), .box (colD r53.1)]) h (fun os58 h hks58 => ?_) (fun s58 h => ?_)
 ·refine kR ?_
  refine AOps_q 234 _ rfl rfl rfl (QOp_loadN_ptr _ _ _ _ _ _ _ rfl Tryz.isAgg34 Tryz.sizeOf34 rfl rfl (colD_all _) (colD_length _)) ?_
  refine AOps_q 235 _ rfl rfl rfl (QOp_loadN_ptr _ _ _ _ _ _ _ rfl Tryz.isAgg34 Tryz.sizeOf34 rfl rfl (colD_all _) (colD_length _)) ?_
  obtain ⟨r54, hr54, h⟩ := bindO h
  refine kC [] 236 (.tup [.d (.agg (colD r54.1)), iV r54.2]) [.box (colD r52.1), .box (colD r52.2), .box (colD r53.1)] rfl Tryz.call30 rfl rfl (spec_ProductColouring_ac k r52.1 r52.2 _ hr54) rfl ?_
  refine kM 3 rfl ?_
  refine AOps_alloc 46 _ _ (colD Col.zero) (zero_of Tryz.typeInfo34 rfl) (by rfl) rfl rfl rfl rfl ?_
  refine AOps_store _ _ _ _ _ _ (colD _) _ _ rfl rfl rfl rfl rfl rfl rfl (colD_one _) (by rw [colD_length]; exact Tryz.sizeOf34) (by rw [colD_length, colD_length]; decide) (colD_whole _ _) ?_
  refine kN 1 rfl ?_
  refine kL (fun s56 => [(3, iV r3.1), (4, iV r3.2), (5, iV r4.1), (6, iV r4.2), (9, .d (.sl none (intsD r10))), (10, iV r11.1), (11, iV r11.2), (20, iV r24), (21, iV r25.1), (22, iV r25.2), (42, .ptr 0 0), (43, .ptr 1 0), (44, .ptr 2 0), (45, iV r53.2), (246, bV s56)]) (fun s56 => [.box (colD r52.1), .box (colD r52.2), .box (colD r53.1)]) h (fun s56 h => ?_) (fun s56 h => ?_)
  ·refine (ACode_region ?_)
   refine kM 2 rfl ?_
   refine AOps_q 241 _ rfl rfl rfl (QOp_neq _ _ _ _ _ _ _ rfl rfl rfl) ?_
   refine kM 1 rfl ?_
   refine AOps_case 242 _ rfl (fun hb55 => ?_) (fun hb55 => ?_)
   ·have h := iteT hb55 h
    refine AOps_skip 243 rfl rfl rfl ?_
    refine AOps_skip 244 rfl rfl rfl ?_
    refine AOps_skip 245 rfl rfl rfl ?_
    refine kN 1 rfl ?_
    cases h
    exact Weak_keep 0 hm [3, 4, 5, 6, 9, 10, 11, 20, 21, 22, 42, 43, 44, 45, 246] [0, 1, 2] _ _ rfl rfl rfl
   have h := iteF hb55 h
   refine AOps_q 243 _ rfl rfl rfl (QOp_loadN_ptr _ _ _ _ _ _ _ rfl Tryz.isAgg34 Tryz.sizeOf34 rfl rfl (colD_all _) (colD_length _)) ?_
   refine AOps_q 244 _ rfl rfl rfl (QOp_loadN_ptr _ _ _ _ _ _ _ rfl Tryz.isAgg34 Tryz.sizeOf34 rfl rfl (colD_all _) (colD_length _)) ?_
   refine AOps_q 245 _ rfl rfl rfl (QOp_neqCol _ _ _ _ _ _ _ _ _ _ _ _ rfl rfl rfl Tryz.underlying34 (by kernel_rfl) (by kernel_rfl) (by decide) (by decide) (by decide) rfl rfl rfl rfl rfl rfl Tryz.underlying2 Tryz.underlying32 Tryz.underlying5 Tryz.sizeOf5 Tryz.sizeOf32) ?_
   refine kN 1 rfl ?_
   cases h
   exact Weak_keep 0 hm [3, 4, 5, 6, 9, 10, 11, 20, 21, 22, 42, 43, 44, 45, 246] [0, 1, 2] _ _ rfl rfl rfl
  refine kI h rfl (fun h _ => ?_) (fun h _ => ?_)
  ·refine kR ?_
   refine kN 1 rfl ?_
   refine ACode_ret ?_
   cases h
   have h := hks58
   cases h
   exact ⟨_, _, fun r a w h => ⟨r, h⟩, _, _, [], _, (.cons (ResV_tmp _ _ rfl) .nil), rfl, rfl, rfl, rfl, rfl⟩
  refine ACode_skip ?_
  cases h
  exact ⟨_, rfl, Weak_keep 0 hm [3, 4, 5, 6, 9, 10, 11, 20, 21, 22, 42, 43, 44, 45] [0, 1, 2] _ _ rfl rfl rfl⟩
 refine kO (fun s71 => [(3, iV r3.1), (4, iV r3.2), (5, iV r4.1), (6, iV r4.2), (9, .d (.sl none (intsD r10))), (10, iV r11.1), (11, iV r11.2), (20, iV r24), (21, iV r25.1), (22, iV r25.2)]) (fun s71 => []) h (fun os71 h hks71 => ?_) (fun s71 h => ?_)
 ·refine kR ?_
  refine kM 1 rfl ?_
  refine AOps_q 248 _ rfl rfl rfl (QOp_eql _ _ _ _ _ _ _ rfl rfl rfl) ?_
  refine AOps_nil ?_
  refine kI h rfl (fun h _ => ?_) (fun h _ => ?_)
  ·refine kR ?_
   refine AOps_q 250 _ rfl rfl rfl (QOp_loadN_ptr _ _ _ _ _ _ _ rfl Tryz.isAgg34 Tryz.sizeOf34 rfl rfl (colD_all _) (colD_length _)) ?_
   obtain ⟨r60, hr60, h⟩ := bindO h
   refine kC [] 251 (.tup [.d (.sl none (intsD (r60.1.getD []))), iV r60.2]) [.box (colD r52.1), .box (colD r52.2), .box (colD r53.1)] rfl Tryz.call31 rfl rfl (AC_frz rfl (frz_cons frz_nil) (impl_CliqueNumbers_ac k r52.1 _ hr60)) rfl ?_
   refine kN 5 rfl ?_
   refine kR ?_
   refine AOps_q 255 _ rfl rfl rfl (QOp_loadN_ptr _ _ _ _ _ _ _ rfl Tryz.isAgg34 Tryz.sizeOf34 rfl rfl (colD_all _) (colD_length _)) ?_
   obtain ⟨r61, hr61, h⟩ := bindO h
   refine kC [] 256 (.tup [.d (.sl none (intsD (r61.1.getD []))), iV r61.2]) [.box (colD r52.1), .box (colD r52.2), .box (colD r53.1)] rfl Tryz.call31 rfl rfl (AC_frz rfl (frz_cons frz_nil) (impl_CliqueNumbers_ac k r52.2 _ hr61)) rfl ?_
   refine kN 5 rfl ?_
   refine kR ?_
   refine AOps_q 260 _ rfl rfl rfl (QOp_loadN_ptr _ _ _ _ _ _ _ rfl Tryz.isAgg34 Tryz.sizeOf34 rfl rfl (colD_all _) (colD_length _)) ?_
   obtain ⟨r62, hr62, h⟩ := bindO h
   refine kC [] 261 (.tup [.d (.sl none (intsD (r62.1.getD []))), iV r62.2]) [.box (colD r52.1), .box (colD r52.2), .box (colD r53.1)] rfl Tryz.call31 rfl rfl (AC_frz rfl (frz_cons frz_nil) (impl_CliqueNumbers_ac k r53.1 _ hr62)) rfl ?_
   refine kN 5 rfl ?_
   refine kB (fun s69 => [(3, iV r3.1), (4, iV r3.2), (5, iV r4.1), (6, iV r4.2), (9, .d (.sl none (intsD r10))), (10, iV r11.1), (11, iV r11.2), (20, iV r24), (21, iV r25.1), (22, iV r25.2), (283, bV s69)]) (fun s69 => []) h (fun s69 h => ?_) (fun s69 h => ?_)
   ·refine (ACode_region ?_)
    refine kM 1 rfl ?_
    refine AOps_q 265 _ rfl rfl rfl (QOp_neq _ _ _ _ _ _ _ rfl rfl rfl) ?_
    refine kM 1 rfl ?_
    refine AOps_case 266 _ rfl (fun hb63 => ?_) (fun hb63 => ?_)
    ·have h := iteT hb63 h
     refine AOps_skip 267 rfl rfl rfl ?_
     refine AOps_skip 268 rfl rfl rfl ?_
     refine kM 2 rfl ?_
     refine AOps_skip 271 rfl rfl rfl ?_
     refine AOps_skip 272 rfl rfl rfl ?_
     refine kM 2 rfl ?_
     refine AOps_skip 275 rfl rfl rfl ?_
     refine AOps_skip 276 rfl rfl rfl ?_
     refine AOps_skip 277 rfl rfl rfl ?_
     refine AOps_skip 278 rfl rfl rfl ?_
     refine AOps_skip 279 rfl rfl rfl ?_
     refine AOps_skip 280 rfl rfl rfl ?_
     refine AOps_skip 281 rfl rfl rfl ?_
     refine AOps_skip 282 rfl rfl rfl ?_
     refine kN 1 rfl ?_
     cases h
     exact Weak_keep 0 hm [3, 4, 5, 6, 9, 10, 11, 20, 21, 22, 283] [] _ _ rfl rfl rfl
    have h := iteF hb63 h
    refine kM 1 rfl ?_
    refine AOps_q 268 _ rfl rfl rfl (QOp_neq _ _ _ _ _ _ _ rfl rfl rfl) ?_
    refine kM 2 rfl ?_
    refine AOps_case 270 _ rfl (fun hb64 => ?_) (fun hb64 => ?_)
    ·have h := iteT hb64 h
     refine AOps_skip 271 rfl rfl rfl ?_
     refine AOps_skip 272 rfl rfl rfl ?_
     refine kM 2 rfl ?_
     refine AOps_skip 275 rfl rfl rfl ?_
     refine AOps_skip 276 rfl rfl rfl ?_
     refine AOps_skip 277 rfl rfl rfl ?_
     refine AOps_skip 278 rfl rfl rfl ?_
     refine AOps_skip 279 rfl rfl rfl ?_
     refine AOps_skip 280 rfl rfl rfl ?_
     refine AOps_skip 281 rfl rfl rfl ?_
     refine AOps_skip 282 rfl rfl rfl ?_
     refine kN 1 rfl ?_
     cases h
     exact Weak_keep 0 hm [3, 4, 5, 6, 9, 10, 11, 20, 21, 22, 283] [] _ _ rfl rfl rfl
    have h := iteF hb64 h
    refine kM 1 rfl ?_
    refine AOps_q 272 _ rfl rfl rfl (QOp_neq _ _ _ _ _ _ _ rfl rfl rfl) ?_
    refine kM 2 rfl ?_
    refine AOps_case 274 _ rfl (fun hb65 => ?_) (fun hb65 => ?_)
    ·have h := iteT hb65 h
     refine AOps_skip 275 rfl rfl rfl ?_
     refine AOps_skip 276 rfl rfl rfl ?_
     refine AOps_skip 277 rfl rfl rfl ?_
     refine AOps_skip 278 rfl rfl rfl ?_
     refine AOps_skip 279 rfl rfl rfl ?_
     refine AOps_skip 280 rfl rfl rfl ?_
     refine AOps_skip 281 rfl rfl rfl ?_
     refine AOps_skip 282 rfl rfl rfl ?_
     refine kN 1 rfl ?_
     cases h
     exact Weak_keep 0 hm [3, 4, 5, 6, 9, 10, 11, 20, 21, 22, 283] [] _ _ rfl rfl rfl
    have h := iteF hb65 h
    refine kM 1 rfl ?_
    refine AOps_buildSlice 276 _ _ _ [] (intsD ([] : List Int)) _ rfl rfl rfl rfl rfl (by decide) Tryz.underlying27 Tryz.sizeOf2 (zero_of Tryz.typeInfo2 rfl) rfl rfl (intsD_one _) ?_
    refine kM 1 rfl ?_
    obtain ⟨hc66, h⟩ := guardO h
    refine AOps_append 278 _ _ _ _ _ _ _ _ _ _ _ _ rfl rfl rfl rfl rfl rfl rfl Tryz.underlying27 Tryz.type2 rfl rfl rfl (by decide) rfl rfl rfl rfl (intsD_one _) (by rw [intsD_length, intsD_length]; exact hc66) ?_
    rw [intsD_app]
    refine kM 1 rfl ?_
    obtain ⟨hc67, h⟩ := guardO h
    refine AOps_append 280 _ _ _ _ _ _ _ _ _ _ _ _ rfl rfl rfl rfl rfl rfl rfl Tryz.underlying27 Tryz.type2 rfl rfl rfl (by decide) rfl rfl rfl rfl (intsD_one _) (by rw [intsD_length, intsD_length]; exact hc67) ?_
    rw [intsD_app]
    obtain ⟨r68, hr68, h⟩ := bindO h
    refine AOps_callL [] 281 _ _ _ _ _ _ _ _ _ _ rfl rfl rfl rfl rfl rfl rfl Tryz.call32 rfl (nodupB_sound _ rfl) rfl rfl rfl (laws_likeInts_ac k (r62.1.getD []) ((([] : List Int) ++ (r60.1.getD [])) ++ (r61.1.getD [])) _ hr68) ?_
    rintro _ _ ⟨rfl, rfl⟩
    refine ⟨(fun _ h => nomatch h), (allc (flat_s _) (fun _ h => nomatch h)), AOps_as 281 (v' := bV r68) (H' := [.box (colD r52.1), .box (colD r52.2), .box (colD r53.1), .vec 2 (intsD ((([] : List Int) ++ (r60.1.getD [])) ++ (r61.1.getD [])))]) rfl rfl ?_⟩
    refine AOps_q 282 _ rfl rfl rfl (QOp_not _ _ _ rfl rfl) ?_
    refine kN 1 rfl ?_
    cases h
    exact Weak_keep 0 hm [3, 4, 5, 6, 9, 10, 11, 20, 21, 22, 283] [] _ _ rfl rfl rfl
   refine kI h rfl (fun h _ => ?_) (fun h _ => ?_)
   ·refine kR ?_
    refine kN 1 rfl ?_
    refine ACode_ret ?_
    cases h
    have h := hks71
    cases h
    exact ⟨_, _, fun r a w h => ⟨r, h⟩, _, _, [], _, (.cons (ResV_tmp _ _ rfl) .nil), rfl, rfl, rfl, rfl, rfl⟩
   refine ACode_skip ?_
   cases h
   exact ⟨_, rfl, Weak_keep 0 hm [3, 4, 5, 6, 9, 10, 11, 20, 21, 22] [] _ _ rfl rfl rfl⟩
  refine ACode_skip ?_
  cases h
  exact ⟨_, rfl, Weak_keep 0 hm [3, 4, 5, 6, 9, 10, 11, 20, 21, 22] [] _ _ rfl rfl rfl⟩
 refine kO (fun s79 => [(3, iV r3.1), (4, iV r3.2), (5, iV r4.1), (6, iV r4.2), (9, .d (.sl none (intsD r10))), (10, iV r11.1), (11, iV r11.2)]) (fun s79 => []) h (fun os79 h hks79 => ?_) (fun s79 h => ?_)
 ·refine kL (fun s73 => [(3, iV r3.1), (4, iV r3.2), (5, iV r4.1), (6, iV r4.2), (9, .d (.sl none (intsD r10))), (10, iV r11.1), (11, iV r11.2), (20, iV r24), (21, iV r25.1), (289, bV s73)]) (fun s73 => []) h (fun s73 h => ?_) (fun s73 h => ?_)
  ·refine (ACode_region ?_)
   refine kM 1 rfl ?_
   refine AOps_q 285 _ rfl rfl rfl (QOp_eql _ _ _ _ _ _ _ rfl rfl rfl) ?_
   refine kM 1 rfl ?_
   refine AOps_case 286 _ rfl (fun hb72 => ?_) (fun hb72 => ?_)
   ·have h := iteT hb72 h
    refine kM 1 rfl ?_
    refine AOps_q 288 _ rfl rfl rfl (QOp_leq _ _ _ _ _ _ _ rfl rfl rfl) ?_
    refine kN 1 rfl ?_
    cases h
    exact Weak_keep 0 hm [3, 4, 5, 6, 9, 10, 11, 20, 21, 289] [] _ _ rfl rfl rfl
   have h := iteF hb72 h
   refine AOps_skip 287 rfl rfl rfl ?_
   refine AOps_skip 288 rfl rfl rfl ?_
   refine kN 1 rfl ?_
   cases h
   exact Weak_keep 0 hm [3, 4, 5, 6, 9, 10, 11, 20, 21, 289] [] _ _ rfl rfl rfl
  refine kI h rfl (fun h _ => ?_) (fun h _ => ?_)
  ·refine kR ?_
   refine kM 2 rfl ?_
   refine AOps_buildSlice 293 _ _ _ [_, _] (intsD ([r24, r24])) _ rfl rfl rfl rfl rfl (by decide) Tryz.underlying27 Tryz.sizeOf2 (zero_of Tryz.typeInfo2 rfl) rfl rfl (intsD_one _) ?_
   obtain ⟨r75, hr75, h⟩ := bindO h
   refine AOps_callL [] 294 _ _ _ _ _ _ _ _ _ _ rfl rfl rfl rfl rfl rfl rfl Tryz.call11 rfl (nodupB_sound _ rfl) rfl rfl rfl (impl_NeighbourBound_ac k ([r24, r24]) _ hr75) ?_
   rintro _ _ ⟨rfl, rfl⟩
   refine ⟨(fun _ h => nomatch h), (allc (flat_s _) (allc (flat_s _) (fun _ h => nomatch h))), AOps_as 294 (v' := .tup [iV r75.1, iV r75.2]) (H' := [.vec 0 (intsD ([r24, r24]))]) rfl rfl ?_⟩
   refine kN 5 rfl ?_
   refine kL (fun s77 => [(3, iV r3.1), (4, iV r3.2), (5, iV r4.1), (6, iV r4.2), (9, .d (.sl none (intsD r10))), (10, iV r11.1), (11, iV r11.2), (303, bV s77)]) (fun s77 => []) h (fun s77 h => ?_) (fun s77 h => ?_)
   ·refine (ACode_region ?_)
    refine kM 1 rfl ?_
    refine AOps_q 298 _ rfl rfl rfl (QOp_neq _ _ _ _ _ _ _ rfl rfl rfl) ?_
    refine kM 1 rfl ?_
    refine AOps_case 299 _ rfl (fun hb76 => ?_) (fun hb76 => ?_)
    ·have h := iteT hb76 h
     refine AOps_skip 300 rfl rfl rfl ?_
     refine AOps_skip 301 rfl rfl rfl ?_
     refine AOps_skip 302 rfl rfl rfl ?_
     refine kN 1 rfl ?_
     cases h
     exact Weak_keep 0 hm [3, 4, 5, 6, 9, 10, 11, 303] [] _ _ rfl rfl rfl
    have h := iteF hb76 h
    refine kM 2 rfl ?_
    refine AOps_q 302 _ rfl rfl rfl (QOp_geq _ _ _ _ _ _ _ rfl rfl rfl) ?_
    refine kN 1 rfl ?_
    cases h
    exact Weak_keep 0 hm [3, 4, 5, 6, 9, 10, 11, 303] [] _ _ rfl rfl rfl
   refine kI h rfl (fun h _ => ?_) (fun h _ => ?_)
   ·refine kR ?_
    refine kN 1 rfl ?_
    refine ACode_ret ?_
    cases h
    have h := hks79
    cases h
    exact ⟨_, _, fun r a w h => ⟨r, h⟩, _, _, [], _, (.cons (ResV_tmp _ _ rfl) .nil), rfl, rfl, rfl, rfl, rfl⟩
   refine ACode_skip ?_
   cases h
   exact ⟨_, rfl, Weak_keep 0 hm [3, 4, 5, 6, 9, 10, 11] [] _ _ rfl rfl rfl⟩
  refine ACode_skip ?_
  cases h
  exact ⟨_, rfl, Weak_keep 0 hm [3, 4, 5, 6, 9, 10, 11] [] _ _ rfl rfl rfl⟩
 refine kO (fun s89 => [(3, iV r3.1), (4, iV r3.2), (5, iV r4.1), (6, iV r4.2)]) (fun s89 => []) h (fun os89 h hks89 => ?_) (fun s89 h => ?_)
 ·refine kL (fun s81 => [(3, iV r3.1), (4, iV r3.2), (5, iV r4.1), (6, iV r4.2), (9, .d (.sl none (intsD r10))), (10, iV r11.1), (310, bV s81)]) (fun s81 => []) h (fun s81 h => ?_) (fun s81 h => ?_)
  ·refine (ACode_region ?_)
   refine kM 1 rfl ?_
   refine AOps_q 305 _ rfl rfl rfl (QOp_eql _ _ _ _ _ _ _ rfl rfl rfl) ?_
   refine kM 1 rfl ?_
   refine AOps_case 306 _ rfl (fun hb80 => ?_) (fun hb80 => ?_)
   ·have h := iteT hb80 h
    refine kM 1 rfl ?_
    refine AOps_q 308 _ rfl rfl rfl (QOp_len_sl _ _ _ _ _ _ _ (intsD_length _) rfl rfl rfl rfl Tryz.underlying27 rfl) ?_
    refine AOps_q 309 _ rfl rfl rfl (QOp_eql _ _ _ _ _ _ _ rfl rfl rfl) ?_
    refine kN 1 rfl ?_
    cases h
    exact Weak_keep 0 hm [3, 4, 5, 6, 9, 10, 310] [] _ _ rfl rfl rfl
   have h := iteF hb80 h
   refine AOps_skip 307 rfl rfl rfl ?_
   refine AOps_skip 308 rfl rfl rfl ?_
   refine AOps_skip 309 rfl rfl rfl ?_
   refine kN 1 rfl ?_
   cases h
   exact Weak_keep 0 hm [3, 4, 5, 6, 9, 10, 310] [] _ _ rfl rfl rfl
  refine kI h rfl (fun h _ => ?_) (fun h _ => ?_)
  ·obtain ⟨hc83, h⟩ := guardO h
   obtain ⟨hc84, h⟩ := guardO h
   obtain ⟨r85, hr85, h⟩ := bindO h
   refine ACode_seqJ (fun E' H' => Weak 354 G E' H' [(3, iV r3.1), (4, iV r3.2), (5, iV r4.1), (6, iV r4.2), (10, iV r11.1), (56, iV r85.1), (57, iV r85.2)] []) ?_ ?_
   ·refine ACode_any mixed ?_
    refine AAny_q 0 312 _ rfl (by kernel_rfl) rfl rfl rfl (QOp_move _ _ rfl rfl) ?_
    refine AAny_q 1 313 _ rfl (by kernel_rfl) rfl rfl rfl (QOp_indexAddr_sl _ _ _ _ _ _ _ _ rfl Tryz.underlying27 Tryz.sizeOf2 hc83.1 (by rw [intsD_length]; exact hc83.2) rfl rfl) ?_
    refine AAny_q 2 314 _ rfl (by kernel_rfl) rfl rfl rfl (QOp_load_pv _ _ _ _ _ rfl Tryz.isAgg2 rfl (intsD_get _ _ 0 (by omega))) ?_
    refine AAny_q 3 315 _ rfl (by kernel_rfl) rfl rfl rfl (QOp_move _ _ rfl rfl) ?_
    refine AAny_q 4 316 _ rfl (by kernel_rfl) rfl rfl rfl (QOp_indexAddr_sl _ _ _ _ _ _ _ _ rfl Tryz.underlying27 Tryz.sizeOf2 hc84.1 (by rw [intsD_length]; exact hc84.2) rfl rfl) ?_
    refine AAny_q 5 317 _ rfl (by kernel_rfl) rfl rfl rfl (QOp_load_pv _ _ _ _ _ rfl Tryz.isAgg2 rfl (intsD_get _ _ 0 (by omega))) ?_
    refine AAny_all [6] (by kernel_rfl) rfl (allc ?_ (fun _ h => nomatch h))
    refine AStep_callN 6 318 _ _ _ _ _ _ _ _ _ rfl rfl rfl rfl rfl rfl rfl rfl Tryz.call14 rfl rfl rfl (impl_BinomialBound_ac k (r10.getD (0 : Int).toNat 0) (r10.getD (1 : Int).toNat 0) _ hr85) ?_
    rintro _ _ ⟨rfl, rfl⟩
    refine ⟨(fun _ h => nomatch h), (allc (trivial) (allc (trivial) (fun _ h => nomatch h))), AAny_as 318 (v' := .tup [iV r85.1, iV r85.2]) (H' := []) rfl rfl ?_⟩
    refine AAny_q 7 311 _ rfl (by kernel_rfl) rfl rfl rfl (QOp_move _ _ rfl rfl) ?_
    refine AAny_q 8 319 _ rfl (by kernel_rfl) rfl rfl rfl (QOp_extract _ _ _ _ rfl rfl rfl) ?_
    refine AAny_q 9 320 _ rfl (by kernel_rfl) rfl rfl rfl (QOp_extract _ _ _ _ rfl rfl rfl) ?_
    refine AAny_q 10 56 _ rfl (by kernel_rfl) rfl rfl rfl (QOp_assign _ _ rfl rfl) ?_
    refine AAny_q 11 57 _ rfl (by kernel_rfl) rfl rfl rfl (QOp_assign _ _ rfl rfl) ?_
    refine AAny_done (by kernel_rfl) ?_
    exact Weak_keep 0 hm [3, 4, 5, 6, 10, 56, 57] [] _ _ rfl rfl rfl
   intro E' H' hw
   refine ACode_weak hw ?_
   refine kL (fun s87 => [(3, iV r3.1), (4, iV r3.2), (5, iV r4.1), (6, iV r4.2), (327, bV s87)]) (fun s87 => []) h (fun s87 h => ?_) (fun s87 h => ?_)
   ·refine (ACode_region ?_)
    refine kM 1 rfl ?_
    refine AOps_q 322 _ rfl rfl rfl (QOp_neq _ _ _ _ _ _ _ rfl rfl rfl) ?_
    refine kM 1 rfl ?_
    refine AOps_case 323 _ rfl (fun hb86 => ?_) (fun hb86 => ?_)
    ·have h := iteT hb86 h
     refine AOps_skip 324 rfl rfl rfl ?_
     refine AOps_skip 325 rfl rfl rfl ?_
     refine AOps_skip 326 rfl rfl rfl ?_
     refine kN 1 rfl ?_
     cases h
     exact Weak_keep 0 hm [3, 4, 5, 6, 327] [] _ _ rfl rfl rfl
    have h := iteF hb86 h
    refine kM 2 rfl ?_
    refine AOps_q 326 _ rfl rfl rfl (QOp_gtr _ _ _ _ _ _ _ rfl rfl rfl) ?_
    refine kN 1 rfl ?_
    cases h
    exact Weak_keep 0 hm [3, 4, 5, 6, 327] [] _ _ rfl rfl rfl
   refine kI h rfl (fun h _ => ?_) (fun h _ => ?_)
   ·refine kR ?_
    refine kN 1 rfl ?_
    refine ACode_ret ?_
    cases h
    have h := hks89
    cases h
    exact ⟨_, _, fun r a w h => ⟨r, h⟩, _, _, [], _, (.cons (ResV_tmp _ _ rfl) .nil), rfl, rfl, rfl, rfl, rfl⟩
   refine ACode_skip ?_
   cases h
   exact ⟨_, rfl, Weak_keep 0 hm [3, 4, 5, 6] [] _ _ rfl rfl rfl⟩
  refine ACode_skip ?_
  cases h
  exact ⟨_, rfl, Weak_keep 0 hm [3, 4, 5, 6] [] _ _ rfl rfl rfl⟩
 refine ACode_seq ?_
 refine kR ?_
 refine kM 1 rfl ?_
 refine AOps_q 329 _ rfl rfl rfl (QOp_neq _ _ _ _ _ _ _ rfl rfl rfl) ?_
 refine AOps_nil ?_
 refine kI h rfl (fun h _ => ?_) (fun h _ => ?_)
 ·refine kR ?_
  refine kM 1 rfl ?_
  refine AOps_q 331 _ rfl rfl rfl (QOp_eql _ _ _ _ _ _ _ rfl rfl rfl) ?_
  refine kN 1 rfl ?_
  refine ACode_ret ?_
  cases h
  exact ⟨_, _, fun r a w h => ⟨r, h⟩, _, _, [], _, (.cons (ResV_tmp _ _ rfl) .nil), rfl, rfl, rfl, rfl, rfl⟩
 refine ACode_skip ?_
 refine kO (fun s94 => [(3, iV r3.1), (4, iV r3.2), (5, iV r4.1)]) (fun s94 => []) h (fun os94 h hks94 => ?_) (fun s94 h => ?_)
 ·refine kL (fun s92 => [(3, iV r3.1), (4, iV r3.2), (5, iV r4.1), (337, bV s92)]) (fun s92 => []) h (fun s92 h => ?_) (fun s92 h => ?_)
  ·refine (ACode_region ?_)
   refine kM 1 rfl ?_
   refine AOps_q 333 _ rfl rfl rfl (QOp_gtr _ _ _ _ _ _ _ rfl rfl rfl) ?_
   refine kM 1 rfl ?_
   refine AOps_case 334 _ rfl (fun hb91 => ?_) (fun hb91 => ?_)
   ·have h := iteT hb91 h
    refine AOps_skip 335 rfl rfl rfl ?_
    refine AOps_skip 336 rfl rfl rfl ?_
    refine kN 1 rfl ?_
    cases h
    exact Weak_keep 0 hm [3, 4, 5, 337] [] _ _ rfl rfl rfl
   have h := iteF hb91 h
   refine kM 1 rfl ?_
   refine AOps_q 336 _ rfl rfl rfl (QOp_gtr _ _ _ _ _ _ _ rfl rfl rfl) ?_
   refine kN 1 rfl ?_
   cases h
   exact Weak_keep 0 hm [3, 4, 5, 337] [] _ _ rfl rfl rfl
  refine kI h rfl (fun h _ => ?_) (fun h _ => ?_)
  ·refine kR ?_
   refine kM 1 rfl ?_
   refine AOps_q 339 _ rfl rfl rfl (QOp_geq _ _ _ _ _ _ _ rfl rfl rfl) ?_
   refine kN 1 rfl ?_
   refine ACode_ret ?_
   cases h
   have h := hks94
   cases h
   exact ⟨_, _, fun r a w h => ⟨r, h⟩, _, _, [], _, (.cons (ResV_tmp _ _ rfl) .nil), rfl, rfl, rfl, rfl, rfl⟩
  refine ACode_skip ?_
  cases h
  exact ⟨_, rfl, Weak_keep 0 hm [3, 4, 5] [] _ _ rfl rfl rfl⟩
 refine kR ?_
 refine kM 2 rfl ?_
 refine AOps_buildSlice 343 _ _ _ [_, _] (intsD ([r3.1, r3.2])) _ rfl rfl rfl rfl rfl (by decide) Tryz.underlying27 Tryz.sizeOf2 (zero_of Tryz.typeInfo2 rfl) rfl rfl (intsD_one _) ?_
 obtain ⟨r95, hr95, h⟩ := bindO h
 refine AOps_callL [] 344 _ _ _ _ _ _ _ _ _ _ rfl rfl rfl rfl rfl rfl rfl Tryz.call11 rfl (nodupB_sound _ rfl) rfl rfl rfl (impl_NeighbourBound_ac k ([r3.1, r3.2]) _ hr95) ?_
 rintro _ _ ⟨rfl, rfl⟩
 refine ⟨(fun _ h => nomatch h), (allc (flat_s _) (allc (flat_s _) (fun _ h => nomatch h))), AOps_as 344 (v' := .tup [iV r95.1, iV r95.2]) (H' := [.vec 0 (intsD ([r3.1, r3.2]))]) rfl rfl ?_⟩
 refine kN 5 rfl ?_
 refine kL (fun s97 => [(2, bV s97)]) (fun s97 => []) h (fun s97 h => ?_) (fun s97 h => ?_)
 ·refine (ACode_region ?_)
  refine kM 1 rfl ?_
  refine AOps_q 348 _ rfl rfl rfl (QOp_eql _ _ _ _ _ _ _ rfl rfl rfl) ?_
  refine kM 1 rfl ?_
  refine AOps_case 349 _ rfl (fun hb96 => ?_) (fun hb96 => ?_)
  ·have h := iteT hb96 h
   refine kM 2 rfl ?_
   refine AOps_q 352 _ rfl rfl rfl (QOp_leq _ _ _ _ _ _ _ rfl rfl rfl) ?_
   refine kN 2 rfl ?_
   cases h
   exact Weak_keep 0 hm [2] [] _ _ rfl rfl rfl
  have h := iteF hb96 h
  refine AOps_skip 350 rfl rfl rfl ?_
  refine AOps_skip 351 rfl rfl rfl ?_
  refine AOps_skip 352 rfl rfl rfl ?_
  refine kN 2 rfl ?_
  cases h
  exact Weak_keep 0 hm [2] [] _ _ rfl rfl rfl
 refine ACode_ret ?_
 cases h
 exact ⟨_, _, fun r a w h => ⟨r, h⟩, _, _, [], _, (.cons (ResV_tmp _ _ rfl) .nil), rfl, rfl, rfl, rfl, rfl⟩

end Go.Proofs.YtghhnpdhehjlaaaGreat
