/- Plain functions of the program and that the program computes them: printed by the own tool gen.py. No conditions. -/
import Derived.Test.YtfoijbdnkkaceaaGen19b
set_option linter.unusedVariables false
set_option linter.unusedSimpArgs false
namespace Go.Proofs.Ytfoijbdnkkaceaa
open Go Go.RowKit Ab

-- slices.Reverse[[]int64,int64]
def slices_Reverse_l0 : Nat → Int → Int → (List Int) → Option (List Int)
 | 0, _, _, _ => none
 | k0 + 1, x1, x2, x3 => (if decide (x1 < x2) then (if 0 ≤ x2 ∧ x2 < (x3.length : Int) then (if 0 ≤ x1 ∧ x1 < (x3.length : Int) then (if 0 ≤ x1 ∧ x1 < (x3.length : Int) then (if 0 ≤ x2 ∧ x2 < ((x3.set x1.toNat (x3.getD x2.toNat 0)).length : Int) then slices_Reverse_l0 k0 (w64 (x1 + 1)) (w64 (x2 - 1)) ((x3.set x1.toNat (x3.getD x2.toNat 0)).set x2.toNat (x3.getD x1.toNat 0)) else none) else none) else none) else none) else some x3)
def slices_Reverse (k : Nat) (p0 : List Int) : Option (List Int) :=
 slices_Reverse_l0 k 0 (w64 ((p0.length : Int) - 1)) p0
set_option maxRecDepth 100000 in
theorem slices_Reverse_ac (k : Nat) (p0 : List Int) (r : List Int) (h : slices_Reverse k p0 = some r) : AC Try.prog 97 [.vec 0 0] [.vec 0 (intsD p0)] (fun res H' => res = [] ∧ H' = [.vec 0 (intsD r)]) := by
 refine AC_of_body true Try.func97 rfl Try.ntmps97 (rvs := []) rfl rfl (fun G hG => ?_)
 have hm : G.H.length = 1 := by rw [hG]; rfl
 have hz : zeroG G.H = true := by rw [hG]; rfl
 unfold slices_Reverse at h
 refine kR ?_
 refine kM 1 rfl ?_
 refine AOps_q 5 _ rfl rfl rfl (QOp_len_vec _ _ _ _ _ _ _ _ (intsD_length _) rfl rfl rfl rfl Try.underlying24 rfl rfl) ?_
 refine AOps_q 6 _ rfl rfl rfl (QOp_sub _ _ _ _ _ _ _ rfl rfl rfl) ?_
 refine kN 2 rfl ?_
 refine ACode_block ?_
 refine ACode_loopW (fun k0 E H => ∃ (x1 : Int) (x2 : Int) (x3 : List Int), E = [(0, .vec 0 0), (2, iV x1), (3, iV x2)] ∧ H = [.vec 0 (intsD x3)] ∧ slices_Reverse_l0 k0 x1 x2 x3 = some r) k _ _ (Weak_keep 1 hm [0, 2, 3] [] _ _ rfl rfl rfl) ⟨_, _, _, rfl, rfl, h⟩ ?_
 clear h
 rintro k0 E H ⟨x1, x2, x3, rfl, rfl, h⟩
 cases k0 with
 | zero => cases (show (none : Option (List Int)) = some _ from h)
 | succ k0 =>
  rw [slices_Reverse_l0] at h
  refine ACode_seq ?_
  refine kR ?_
  refine kM 2 rfl ?_
  refine AOps_q 9 _ rfl rfl rfl (QOp_lss _ _ _ _ _ _ _ rfl rfl rfl) ?_
  refine AOps_nil ?_
  refine kI h rfl (fun h _ => ?_) (fun h _ => ?_)
  ·refine ACode_skip ?_
   refine ACode_seq ?_
   refine ACode_block ?_
   obtain ⟨hc5, h⟩ := guardO h
   obtain ⟨hc6, h⟩ := guardO h
   obtain ⟨hc7, h⟩ := guardO h
   obtain ⟨hc8, h⟩ := guardO h
   refine ACode_reg [(0, .vec 0 0), (2, iV x1), (3, iV x2)] [.vec 0 (intsD ((x3.set x1.toNat (x3.getD x2.toNat 0)).set x2.toNat (x3.getD x1.toNat 0)))] ?_ ?_
   ·refine ACode_anyU mixed ?_
    refine AU_u 0 14 _ rfl (by kernel_rfl) rfl rfl rfl (UOp_move _ _ rfl rfl) ?_
    refine AU_u 1 15 _ rfl (by kernel_rfl) rfl rfl rfl (UOp_move _ _ rfl rfl) ?_
    refine AU_u 2 16 _ rfl (by kernel_rfl) rfl rfl rfl (UOp_move _ _ rfl rfl) ?_
    refine AU_u 3 17 _ rfl (by kernel_rfl) rfl rfl rfl (UOp_move _ _ rfl rfl) ?_
    refine AU_u 4 18 _ rfl (by kernel_rfl) rfl rfl rfl (UOp_move _ _ rfl rfl) ?_
    refine AU_u 5 19 _ rfl (by kernel_rfl) rfl rfl rfl (UOp_move _ _ rfl rfl) ?_
    refine AU_u 6 20 _ rfl (by kernel_rfl) rfl rfl rfl (UOp_indexAddr_vec _ _ _ _ _ _ _ _ _ rfl Try.underlying24 Try.sizeOf2 hc5.1 (by rw [intsD_length]; exact hc5.2) rfl rfl rfl) ?_
    refine AU_u 8 22 _ rfl (by kernel_rfl) rfl rfl rfl (UOp_move _ _ rfl rfl) ?_
    refine AU_u 9 23 _ rfl (by kernel_rfl) rfl rfl rfl (UOp_move _ _ rfl rfl) ?_
    refine AU_u 10 24 _ rfl (by kernel_rfl) rfl rfl rfl (UOp_indexAddr_vec _ _ _ _ _ _ _ _ _ rfl Try.underlying24 Try.sizeOf2 hc6.1 (by rw [intsD_length]; exact hc6.2) rfl rfl rfl) ?_
    refine AU_all [7, 11] (by kernel_rfl) rfl (allc ?_ (allc ?_ (fun _ h => nomatch h)))
    ·refine US_of 7 rfl rfl ?_
     refine AOps_q 21 _ rfl rfl rfl (QOp_load_eptr _ _ _ _ _ _ _ rfl Try.isAgg2 rfl rfl (intsD_get _ _ 0 (by omega))) ?_
     refine AOps_nil ?_
     refine AU_one 11 (by kernel_rfl) rfl rfl ?_
     refine AOps_q 25 _ rfl rfl rfl (QOp_load_eptr _ _ _ _ _ _ _ rfl Try.isAgg2 rfl rfl (intsD_get _ _ 0 (by omega))) ?_
     refine AOps_nil ?_
     refine AU_u 12 26 _ rfl (by kernel_rfl) rfl rfl rfl (UOp_indexAddr_vec _ _ _ _ _ _ _ _ _ rfl Try.underlying24 Try.sizeOf2 hc7.1 (by rw [intsD_length]; exact hc7.2) rfl rfl rfl) ?_
     refine AU_one 13 (by kernel_rfl) rfl rfl ?_
     refine AOps_store_eptr _ _ _ _ _ _ (intsD x3) _ rfl rfl rfl rfl rfl rfl rfl Try.sizeOf2 (by rw [intsD_length]; omega) ?_
     rw [intsD_set]
     refine AOps_nil ?_
     refine AU_u 14 27 _ rfl (by kernel_rfl) rfl rfl rfl (UOp_indexAddr_vec _ _ _ _ _ _ _ _ _ rfl Try.underlying24 Try.sizeOf2 hc8.1 (by rw [intsD_length]; exact hc8.2) rfl rfl rfl) ?_
     refine AU_one 15 (by kernel_rfl) rfl rfl ?_
     refine AOps_store_eptr _ _ _ _ _ _ (intsD (x3.set x1.toNat (x3.getD x2.toNat 0))) _ rfl rfl rfl rfl rfl rfl rfl Try.sizeOf2 (by rw [intsD_length]; omega) ?_
     rw [intsD_set]
     refine AOps_nil ?_
     refine AU_done (by kernel_rfl) ?_
     exact ⟨rfl, Weak_keep 1 hm [0, 2, 3] [] _ _ rfl rfl rfl⟩
    refine US_of 11 rfl rfl ?_
    refine AOps_q 25 _ rfl rfl rfl (QOp_load_eptr _ _ _ _ _ _ _ rfl Try.isAgg2 rfl rfl (intsD_get _ _ 0 (by omega))) ?_
    refine AOps_nil ?_
    refine AU_one 7 (by kernel_rfl) rfl rfl ?_
    refine AOps_q 21 _ rfl rfl rfl (QOp_load_eptr _ _ _ _ _ _ _ rfl Try.isAgg2 rfl rfl (intsD_get _ _ 0 (by omega))) ?_
    refine AOps_nil ?_
    refine AU_u 12 26 _ rfl (by kernel_rfl) rfl rfl rfl (UOp_indexAddr_vec _ _ _ _ _ _ _ _ _ rfl Try.underlying24 Try.sizeOf2 hc7.1 (by rw [intsD_length]; exact hc7.2) rfl rfl rfl) ?_
    refine AU_one 13 (by kernel_rfl) rfl rfl ?_
    refine AOps_store_eptr _ _ _ _ _ _ (intsD x3) _ rfl rfl rfl rfl rfl rfl rfl Try.sizeOf2 (by rw [intsD_length]; omega) ?_
    rw [intsD_set]
    refine AOps_nil ?_
    refine AU_u 14 27 _ rfl (by kernel_rfl) rfl rfl rfl (UOp_indexAddr_vec _ _ _ _ _ _ _ _ _ rfl Try.underlying24 Try.sizeOf2 hc8.1 (by rw [intsD_length]; exact hc8.2) rfl rfl rfl) ?_
    refine AU_one 15 (by kernel_rfl) rfl rfl ?_
    refine AOps_store_eptr _ _ _ _ _ _ (intsD (x3.set x1.toNat (x3.getD x2.toNat 0))) _ rfl rfl rfl rfl rfl rfl rfl Try.sizeOf2 (by rw [intsD_length]; omega) ?_
    rw [intsD_set]
    refine AOps_nil ?_
    refine AU_done (by kernel_rfl) ?_
    exact ⟨rfl, Weak_keep 1 hm [0, 2, 3] [] _ _ rfl rfl rfl⟩
   refine (ACode_region ?_)
   refine kM 1 rfl ?_
   refine AOps_q 11 _ rfl rfl rfl (QOp_add _ _ _ _ _ _ _ rfl rfl rfl) ?_
   refine kM 1 rfl ?_
   refine AOps_q 13 _ rfl rfl rfl (QOp_sub _ _ _ _ _ _ _ rfl rfl rfl) ?_
   refine kN 2 rfl ?_
   exact ⟨k0, _, _, Nat.lt_succ_self _, Weak_keep 1 hm [0, 2, 3] [] _ _ rfl rfl rfl, _, _, _, rfl, rfl, h⟩
  refine ACode_exit ?_
  cases h
  exact ⟨_, _, fun r a w h => ⟨r, h⟩, _, _, [], _, .nil, rfl, rfl, rfl, rfl, rfl⟩

-- loop.example/g01362/impl.ReflectPart
def impl_ReflectPart (k : Nat) (p0 : Int) (p1 : List Int) : Option (List Int × Int) :=
 (impl_isPart k p0 p1).bind fun r1 => (if !r1 then some ([], 2) else (if p1.isEmpty then (slices_Reverse_d0 k ([])).bind fun r5 => some ([], 0) else (cloneA p1).bind fun r6 => (slices_Reverse k r6).bind fun r7 => some (r7, 0)))
set_option maxRecDepth 100000 in
theorem impl_ReflectPart_ac (k : Nat) (p0 : Int) (p1 : List Int) (r : List Int × Int) (h : impl_ReflectPart k p0 p1 = some r) : AC Try.prog 20 [iV p0, .d (.sl none (intsD p1))] [] (fun res H' => res = [.d (.sl none (intsD r.1)), iV r.2] ∧ H' = []) := by
 refine AC_of_body true Try.func20 rfl Try.ntmps20 (rvs := [.tmp 4, .tmp 5]) rfl rfl (fun G hG => ?_)
 have hm : G.H.length = 0 := by rw [hG]; rfl
 have hz : zeroG G.H = true := by rw [hG]; rfl
 unfold impl_ReflectPart at h
 refine kR ?_
 refine kN 2 rfl ?_
 refine ACode_seq ?_
 refine kR ?_
 refine kM 2 rfl ?_
 obtain ⟨r1, hr1, h⟩ := bindO h
 refine kC [] 9 (bV r1) [] rfl Try.call79 rfl rfl (impl_isPart_ac k p0 p1 _ hr1) rfl ?_
 refine AOps_q 10 _ rfl rfl rfl (QOp_not _ _ _ rfl rfl) ?_
 refine AOps_nil ?_
 refine kI h rfl (fun h _ => ?_) (fun h _ => ?_)
 ·refine kR ?_
  refine kN 2 rfl ?_
  refine ACode_ret ?_
  cases h
  exact ⟨_, _, fun r a w h => ⟨r, h⟩, _, _, [], _, (.cons (ResV_tmp _ _ rfl) (.cons (ResV_tmp _ _ rfl) .nil)), rfl, rfl, rfl, rfl, rfl⟩
 refine ACode_skip ?_
 refine kR ?_
 refine kM 1 rfl ?_
 refine bsplit (p1.isEmpty) (fun hb3 => ?_) (fun hb3 => ?_)
 ·have h := iteT hb3 h
  refine kC [] 12 (.d (.se none)) [] rfl Try.call96 rfl rfl (cloneB_ac p1 hb3) rfl ?_
  refine kN 1 rfl ?_
  refine kR ?_
  refine kM 1 rfl ?_
  refine AOps_weak (Weak_se 6 _ rfl) ?_
  refine AOps_weak (Weak_se 12 _ rfl) ?_
  refine AOps_weak (Weak_se 13 _ rfl) ?_
  obtain ⟨r5, hr5, h⟩ := bindO h
  refine kC [] 14 (.tup []) [] rfl Try.call97 rfl rfl (slices_Reverse_d0_ac k ([]) _ hr5) rfl ?_
  refine AOps_nil ?_
  refine kR ?_
  refine kN 3 rfl ?_
  refine ACode_ret ?_
  cases h
  exact ⟨_, _, fun r a w h => ⟨r, h⟩, _, _, [], _, (.cons (ResV_tmp _ _ rfl) (.cons (ResV_tmp _ _ rfl) .nil)), rfl, rfl, rfl, rfl, rfl⟩
 have h := iteF hb3 h
 obtain ⟨r6, hr6, h⟩ := bindO h
 refine kC [] 12 (.vec 0 0) [.vec 0 (intsD r6)] rfl Try.call96 rfl rfl (cloneA_ac p1 _ hb3 hr6) rfl ?_
 refine kN 1 rfl ?_
 refine kR ?_
 refine kM 1 rfl ?_
 obtain ⟨r7, hr7, h⟩ := bindO h
 refine kC [0] 14 (.tup []) [.vec 0 (intsD r7)] rfl Try.call97 rfl rfl (slices_Reverse_ac k r6 _ hr7) rfl ?_
 refine AOps_nil ?_
 refine kR ?_
 refine kN 3 rfl ?_
 refine ACode_ret ?_
 cases h
 exact ⟨_, _, fun r a w h => ⟨r, h⟩, _, _, [], _, (.cons (ResV_tmp _ _ rfl) (.cons (ResV_tmp _ _ rfl) .nil)), rfl, rfl, rfl, rfl, rfl⟩

-- loop.example/g01362/spec.ReflectPart
def spec_ReflectPart_l0 (p1 : List Int) : Nat → Int → (List Int) → Option (List Int)
 | 0, _, _ => none
 | k0 + 1, x3, x4 => (if decide (0 ≤ x3) then (if 0 ≤ x3 ∧ x3 < (p1.length : Int) then (if x4.length + ([(p1.getD x3.toNat 0)]).length ≤ 1099511627776 then spec_ReflectPart_l0 p1 k0 (w64 (x3 - 1)) (x4 ++ ([(p1.getD x3.toNat 0)])) else none) else none) else some x4)
def spec_ReflectPart (k : Nat) (p0 : Int) (p1 : List Int) : Option (List Int × Int) :=
 (spec_l07Code k p0 p1 0).bind fun r1 => (if !decide (r1 = 0) then some ([], r1) else (spec_ReflectPart_l0 p1 k (w64 ((p1.length : Int) - 1)) ([] : List Int) : Option (List Int)).bind fun s8 => some (s8, 0))
set_option maxRecDepth 100000 in
theorem spec_ReflectPart_ac (k : Nat) (p0 : Int) (p1 : List Int) (r : List Int × Int) (h : spec_ReflectPart k p0 p1 = some r) : AC Try.prog 21 [iV p0, .d (.sl none (intsD p1))] [] (fun res H' => res = [.d (.sl none (intsD r.1)), iV r.2] ∧ H' = []) := by
 refine AC_of_body true Try.func21 rfl Try.ntmps21 (rvs := [.tmp 4, .tmp 5]) rfl rfl (fun G hG => ?_)
 have hm : G.H.length = 0 := by rw [hG]; rfl
 have hz : zeroG G.H = true := by rw [hG]; rfl
 unfold spec_ReflectPart at h
 refine kR ?_
 refine kN 2 rfl ?_
 refine ACode_seq ?_
 refine kR ?_
 refine kM 2 rfl ?_
 obtain ⟨r1, hr1, h⟩ := bindO h
 refine kC [] 11 (iV r1) [] rfl Try.call81 rfl rfl (spec_l07Code_ac k p0 p1 0 _ hr1) rfl ?_
 refine kN 1 rfl ?_
 refine kR ?_
 refine kM 1 rfl ?_
 refine AOps_q 13 _ rfl rfl rfl (QOp_neq _ _ _ _ _ _ _ rfl rfl rfl) ?_
 refine AOps_nil ?_
 refine kI h rfl (fun h _ => ?_) (fun h _ => ?_)
 ·refine kR ?_
  refine kN 3 rfl ?_
  refine ACode_ret ?_
  cases h
  exact ⟨_, _, fun r a w h => ⟨r, h⟩, _, _, [], _, (.cons (ResV_tmp _ _ rfl) (.cons (ResV_tmp _ _ rfl) .nil)), rfl, rfl, rfl, rfl, rfl⟩
 refine ACode_skip ?_
 refine kR ?_
 refine AOps_buildSlice 15 _ _ _ [] (intsD ([] : List Int)) _ rfl rfl rfl rfl rfl (by decide) Try.underlying24 Try.sizeOf2 (zero_of Try.typeInfo2 rfl) rfl rfl (intsD_one _) ?_
 refine kN 1 rfl ?_
 refine kB (fun s8 => [(7, .vec 0 0)]) (fun s8 => [.vec 0 (intsD s8)]) h (fun s8 h => ?_) (fun s8 h => ?_)
 ·refine kR ?_
  refine kM 1 rfl ?_
  refine AOps_q 17 _ rfl rfl rfl (QOp_len_sl _ _ _ _ _ _ _ (intsD_length _) rfl rfl rfl rfl Try.underlying24 rfl) ?_
  refine AOps_q 18 _ rfl rfl rfl (QOp_sub _ _ _ _ _ _ _ rfl rfl rfl) ?_
  refine kN 1 rfl ?_
  refine ACode_block ?_
  refine ACode_loopW (fun k0 E H => ∃ (x3 : Int) (x4 : List Int), E = [(1, .d (.sl none (intsD p1))), (7, .vec 0 0), (8, iV x3)] ∧ H = [.vec 0 (intsD x4)] ∧ spec_ReflectPart_l0 p1 k0 x3 x4 = some s8) k _ _ (Weak_keep 0 hm [1, 7, 8] [0] _ _ rfl rfl rfl) ⟨_, _, rfl, rfl, h⟩ ?_
  clear h
  rintro k0 E H ⟨x3, x4, rfl, rfl, h⟩
  cases k0 with
  | zero => cases (show (none : Option (List Int)) = some _ from h)
  | succ k0 =>
   rw [spec_ReflectPart_l0] at h
   refine ACode_seq ?_
   refine kR ?_
   refine kM 1 rfl ?_
   refine AOps_q 20 _ rfl rfl rfl (QOp_geq _ _ _ _ _ _ _ rfl rfl rfl) ?_
   refine AOps_nil ?_
   refine kI h rfl (fun h _ => ?_) (fun h _ => ?_)
   ·refine ACode_skip ?_
    refine ACode_seq ?_
    refine ACode_block ?_
    refine (ACode_region ?_)
    refine kM 3 rfl ?_
    obtain ⟨hc6, h⟩ := guardO h
    refine AOps_q 26 _ rfl rfl rfl (QOp_indexAddr_sl _ _ _ _ _ _ _ _ rfl Try.underlying24 Try.sizeOf2 hc6.1 (by rw [intsD_length]; exact hc6.2) rfl rfl) ?_
    refine AOps_q 27 _ rfl rfl rfl (QOp_load_pv _ _ _ _ _ rfl Try.isAgg2 rfl (intsD_get _ _ 0 (by omega))) ?_
    refine AOps_buildSlice 28 _ _ _ [_] (intsD ([(p1.getD x3.toNat 0)])) _ rfl rfl rfl rfl rfl (by decide) Try.underlying24 Try.sizeOf2 (zero_of Try.typeInfo2 rfl) rfl rfl (intsD_one _) ?_
    obtain ⟨hc7, h⟩ := guardO h
    refine AOps_append 29 _ _ _ _ _ _ _ _ _ _ _ _ rfl rfl rfl rfl rfl rfl rfl Try.underlying24 Try.type2 rfl rfl rfl (by decide) rfl rfl rfl rfl (intsD_one _) (by rw [intsD_length, intsD_length]; exact hc7) ?_
    rw [intsD_app]
    refine kN 1 rfl ?_
    refine (ACode_region ?_)
    refine kM 1 rfl ?_
    refine AOps_q 22 _ rfl rfl rfl (QOp_sub _ _ _ _ _ _ _ rfl rfl rfl) ?_
    refine kN 1 rfl ?_
    exact ⟨k0, _, _, Nat.lt_succ_self _, Weak_trans (Weak_keep 0 hm [1, 7, 8] [0] _ _ rfl rfl rfl) (Weak_reset 0 hm hz [1, 7, 8] _ _ rfl rfl), _, _, rfl, rfl, h⟩
   refine ACode_exit ?_
   cases h
   exact Weak_keep 0 hm [7] [0] _ _ rfl rfl rfl
 refine kR ?_
 refine kN 3 rfl ?_
 refine ACode_ret ?_
 cases h
 exact ⟨_, _, fun r a w h => ⟨r, h⟩, _, _, [], _, (.cons (ResV_tmp _ _ rfl) (.cons (ResV_tmp _ _ rfl) .nil)), rfl, rfl, rfl, rfl, rfl⟩

-- loop.example/g01362/spec.l01Near
def spec_l01Near (p0 : Src) (p1 : Int) : Option (Int × Src) :=
 (spec_l01Next p0 14).bind fun r1 => (if decide (r1.1 = 0) then (spec_l01Pick r1.2 ([(-1), w64 (p1 + 1), 1099511627776, (-4611686018427387904)])).bind fun r3 => some (r3.1, r3.2) else (spec_l01Next r1.2 (w64 (p1 + 1))).bind fun r4 => some (r4.1, r4.2))
set_option maxRecDepth 100000 in
theorem spec_l01Near_ac (p0 : Src) (p1 : Int) (r : Int × Src) (h : spec_l01Near p0 p1 = some r) : AC Try.prog 98 [.ptr 0 0, iV p1] [.box (srcD p0)] (fun res H' => res = [iV r.1] ∧ H' = [.box (srcD r.2)]) := by
 refine AC_of_body true Try.func98 rfl Try.ntmps98 (rvs := [.tmp 4]) rfl rfl (fun G hG => ?_)
 have hm : G.H.length = 1 := by rw [hG]; rfl
 have hz : zeroG G.H = true := by rw [hG]; rfl
 unfold spec_l01Near at h
 refine kR ?_
 refine kN 1 rfl ?_
 refine ACode_seq ?_
 refine kR ?_
 refine kM 1 rfl ?_
 obtain ⟨r1, hr1, h⟩ := bindO h
 refine kC [0] 6 (iV r1.1) [.box (srcD r1.2)] rfl Try.call77 rfl rfl (spec_l01Next_ac p0 14 _ hr1) rfl ?_
 refine AOps_q 7 _ rfl rfl rfl (QOp_eql _ _ _ _ _ _ _ rfl rfl rfl) ?_
 refine AOps_nil ?_
 refine kI h rfl (fun h _ => ?_) (fun h _ => ?_)
 ·refine kR ?_
  refine kM 2 rfl ?_
  refine AOps_q 10 _ rfl rfl rfl (QOp_add _ _ _ _ _ _ _ rfl rfl rfl) ?_
  refine AOps_buildSlice 11 _ _ _ [_, _, _, _] (intsD ([(-1), w64 (p1 + 1), 1099511627776, (-4611686018427387904)])) _ rfl rfl rfl rfl rfl (by decide) Try.underlying24 Try.sizeOf2 (zero_of Try.typeInfo2 rfl) rfl rfl (intsD_one _) ?_
  refine AOps_freezeL [11] 1 0 _ (allc (rfl) (fun _ h => nomatch h)) rfl ?_
  obtain ⟨r3, hr3, h⟩ := bindO h
  refine kC [0] 12 (iV r3.1) [.box (srcD r3.2), .gone] rfl Try.call125 rfl rfl (spec_l01Pick_ac r1.2 ([(-1), w64 (p1 + 1), 1099511627776, (-4611686018427387904)]) _ hr3) rfl ?_
  refine kN 1 rfl ?_
  refine ACode_ret ?_
  cases h
  exact ⟨_, _, fun r a w h => ⟨r, h⟩, _, _, [], _, (.cons (ResV_tmp _ _ rfl) .nil), rfl, rfl, rfl, rfl, rfl⟩
 refine ACode_skip ?_
 refine kR ?_
 refine kM 2 rfl ?_
 refine AOps_q 15 _ rfl rfl rfl (QOp_add _ _ _ _ _ _ _ rfl rfl rfl) ?_
 obtain ⟨r4, hr4, h⟩ := bindO h
 refine kC [0] 16 (iV r4.1) [.box (srcD r4.2)] rfl Try.call77 rfl rfl (spec_l01Next_ac r1.2 (w64 (p1 + 1)) _ hr4) rfl ?_
 refine kN 1 rfl ?_
 refine ACode_ret ?_
 cases h
 exact ⟨_, _, fun r a w h => ⟨r, h⟩, _, _, [], _, (.cons (ResV_tmp _ _ rfl) .nil), rfl, rfl, rfl, rfl, rfl⟩

-- loop.example/g01362/spec.DrawClassOfColour
def spec_DrawClassOfColour (k : Nat) (p0 : List UInt8) : Option (Int × List Int × Int) :=
 (spec_l07With k p0).bind fun r1 => (spec_l01From k p0).bind fun r2 => (spec_l01Near r2 2).bind fun r3 => some (r1.1, r1.2.1, r3.1)
set_option maxRecDepth 100000 in
theorem spec_DrawClassOfColour_ac (k : Nat) (p0 : List UInt8) (r : Int × List Int × Int) (h : spec_DrawClassOfColour k p0 = some r) : AC Try.prog 22 [.d (.sl none (bysD p0))] [] (fun res H' => res = [iV r.1, .vec 0 0, iV r.2.2] ∧ H' = [.vec 0 (intsD r.2.1)]) := by
 refine AC_of_body true Try.func22 rfl Try.ntmps22 (rvs := [.tmp 2, .tmp 3, .tmp 4]) rfl rfl (fun G hG => ?_)
 have hm : G.H.length = 0 := by rw [hG]; rfl
 have hz : zeroG G.H = true := by rw [hG]; rfl
 unfold spec_DrawClassOfColour at h
 refine kR ?_
 refine kN 3 rfl ?_
 refine kR ?_
 refine kM 1 rfl ?_
 obtain ⟨r1, hr1, h⟩ := bindO h
 refine kC [] 10 (.tup [iV r1.1, .vec 0 0, iV r1.2.2]) [.vec 0 (intsD r1.2.1)] rfl Try.call76 rfl rfl (spec_l07With_ac k p0 _ hr1) rfl ?_
 refine kN 7 rfl ?_
 refine kR ?_
 refine kM 3 rfl ?_
 obtain ⟨r2, hr2, h⟩ := bindO h
 refine kC [] 17 (.ptr 1 0) [.vec 0 (intsD r1.2.1), .box (srcD r2)] rfl Try.call78 rfl rfl (spec_l01From_ac k p0 _ hr2) rfl ?_
 obtain ⟨r3, hr3, h⟩ := bindO h
 refine kC [1] 18 (iV r3.1) [.vec 0 (intsD r1.2.1), .box (srcD r3.2)] rfl Try.call98 rfl rfl (spec_l01Near_ac r2 2 _ hr3) rfl ?_
 refine kN 3 rfl ?_
 refine ACode_ret ?_
 cases h
 exact ⟨_, _, Weak_reset 0 hm hz [2, 3, 4] _ _ rfl rfl, _, _, [0], _, (.cons (ResV_tmp _ _ rfl) (.cons (ResV_tmp _ _ rfl) (.cons (ResV_tmp _ _ rfl) .nil))), rfl, rfl, rfl, rfl, rfl⟩

-- loop.example/g01362/impl.ClassOfColour
def impl_ClassOfColour_l0 (p1 : List Int) (p2 : Int) : Nat → Int → (List Int) → Option (List Int)
 | 0, _, _ => none
 | k0 + 1, x7, x8 => (if decide (x7 < (p1.length : Int)) then ((if 0 ≤ x7 ∧ x7 < (p1.length : Int) then (if decide ((p1.getD x7.toNat 0) = p2) then (if x8.length + ([w64 (x7 + 1)]).length ≤ 1099511627776 then some (x8 ++ ([w64 (x7 + 1)])) else none) else some x8) else none) : Option (List Int)).bind fun s13 => impl_ClassOfColour_l0 p1 p2 k0 (w64 (x7 + 1)) s13 else some x8)
def impl_ClassOfColour (k : Nat) (p0 : Int) (p1 : List Int) (p2 : Int) : Option (Option (List Int) × Int) :=
 (((impl_isPart k p0 p1).bind fun r1 => (if !r1 then some true else some (!(impl_in p2 0 (w64 (p0 - 1))))) : Option (Bool)).bind fun s4 => (if s4 then some (.inr (none, 2)) else some (.inl ())) : Option (Sum (Unit) (Option (List Int) × Int))).bind fun os6 => (match os6 with | .inl s6 => (impl_ClassOfColour_l0 p1 p2 k 0 ([] : List Int) : Option (List Int)).bind fun s14 => some (some s14, 0) | .inr rr => some rr)
set_option maxRecDepth 100000 in
theorem impl_ClassOfColour_ac (k : Nat) (p0 : Int) (p1 : List Int) (p2 : Int) (r : Option (List Int) × Int) (h : impl_ClassOfColour k p0 p1 p2 = some r) : AC Try.prog 23 [iV p0, .d (.sl none (intsD p1)), iV p2] [] (fun res H' => res = [ownA 0 (r.1.map intsD), iV r.2] ∧ H' = [] ++ ownH (r.1.map intsD)) := by
 refine AC_of_body false Try.func23 rfl Try.ntmps23 (rvs := [.tmp 6, .tmp 7]) rfl rfl (fun G hG => ?_)
 have hm : G.H.length = 0 := by rw [hG]; rfl
 have hz : zeroG G.H = true := by rw [hG]; rfl
 unfold impl_ClassOfColour at h
 refine kR ?_
 refine kN 2 rfl ?_
 refine kO (fun s6 => [(1, .d (.sl none (intsD p1))), (2, iV p2)]) (fun s6 => []) h (fun os6 h hks6 => ?_) (fun s6 h => ?_)
 ·refine kB (fun s4 => [(1, .d (.sl none (intsD p1))), (2, iV p2), (21, bV s4)]) (fun s4 => []) h (fun s4 h => ?_) (fun s4 h => ?_)
  ·refine (ACode_region ?_)
   refine kM 2 rfl ?_
   obtain ⟨r1, hr1, h⟩ := bindO h
   refine kC [] 13 (bV r1) [] rfl Try.call79 rfl rfl (impl_isPart_ac k p0 p1 _ hr1) rfl ?_
   refine AOps_q 14 _ rfl rfl rfl (QOp_not _ _ _ rfl rfl) ?_
   refine kM 1 rfl ?_
   refine AOps_case 15 _ rfl (fun hb2 => ?_) (fun hb2 => ?_)
   ·have h := iteT hb2 h
    refine AOps_skip 16 rfl rfl rfl ?_
    refine AOps_skip 17 rfl rfl rfl ?_
    refine AOps_skip 18 rfl rfl rfl ?_
    refine AOps_skip 19 rfl rfl rfl ?_
    refine AOps_skip 20 rfl rfl rfl ?_
    refine kN 1 rfl ?_
    cases h
    exact Weak_keep 0 hm [1, 2, 21] [] _ _ rfl rfl rfl
   have h := iteF hb2 h
   refine kM 2 rfl ?_
   refine AOps_q 18 _ rfl rfl rfl (QOp_sub _ _ _ _ _ _ _ rfl rfl rfl) ?_
   refine kC [] 19 (bV (impl_in p2 0 (w64 (p0 - 1)))) [] rfl Try.call99 rfl rfl (impl_in_ac p2 0 (w64 (p0 - 1))) rfl ?_
   refine AOps_q 20 _ rfl rfl rfl (QOp_not _ _ _ rfl rfl) ?_
   refine kN 1 rfl ?_
   cases h
   exact Weak_keep 0 hm [1, 2, 21] [] _ _ rfl rfl rfl
  refine kI h rfl (fun h _ => ?_) (fun h _ => ?_)
  ·refine kR ?_
   refine kN 2 rfl ?_
   refine ACode_ret ?_
   cases h
   have h := hks6
   cases h
   exact ⟨_, _, fun r a w h => ⟨r, h⟩, _, _, [], _, (.cons (ResV_tmp _ _ rfl) (.cons (ResV_tmp _ _ rfl) .nil)), rfl, rfl, rfl, rfl, rfl⟩
  refine ACode_skip ?_
  cases h
  exact ⟨_, rfl, Weak_keep 0 hm [1, 2] [] _ _ rfl rfl rfl⟩
 refine kR ?_
 refine AOps_buildSlice 22 _ _ _ [] (intsD ([] : List Int)) _ rfl rfl rfl rfl rfl (by decide) Try.underlying24 Try.sizeOf2 (zero_of Try.typeInfo2 rfl) rfl rfl (intsD_one _) ?_
 refine kN 1 rfl ?_
 refine kB (fun s14 => [(8, .vec 0 0)]) (fun s14 => [.vec 0 (intsD s14)]) h (fun s14 h => ?_) (fun s14 h => ?_)
 ·refine kR ?_
  refine kM 1 rfl ?_
  refine AOps_q 24 _ rfl rfl rfl (QOp_len_sl _ _ _ _ _ _ _ (intsD_length _) rfl rfl rfl rfl Try.underlying24 rfl) ?_
  refine kN 1 rfl ?_
  refine ACode_block ?_
  refine ACode_loopW (fun k0 E H => ∃ (x7 : Int) (x8 : List Int), E = [(2, iV p2), (8, .vec 0 0), (23, .d (.sl none (intsD p1))), (24, iV (p1.length : Int)), (25, iV x7)] ∧ H = [.vec 0 (intsD x8)] ∧ impl_ClassOfColour_l0 p1 p2 k0 x7 x8 = some s14) k _ _ (Weak_keep 0 hm [2, 8, 23, 24, 25] [0] _ _ rfl rfl rfl) ⟨_, _, rfl, rfl, h⟩ ?_
  clear h
  rintro k0 E H ⟨x7, x8, rfl, rfl, h⟩
  cases k0 with
  | zero => cases (show (none : Option (List Int)) = some _ from h)
  | succ k0 =>
   rw [impl_ClassOfColour_l0] at h
   refine kR ?_
   refine AOps_q 26 _ rfl rfl rfl (QOp_lss _ _ _ _ _ _ _ rfl rfl rfl) ?_
   refine AOps_nil ?_
   refine ACode_seq ?_
   refine kI h rfl (fun h _ => ?_) (fun h _ => ?_)
   ·refine ACode_skip ?_
    refine kB (fun s13 => [(2, iV p2), (8, .vec 0 0), (23, .d (.sl none (intsD p1))), (24, iV (p1.length : Int)), (25, iV x7)]) (fun s13 => [.vec 0 (intsD s13)]) h (fun s13 h => ?_) (fun s13 h => ?_)
    ·refine ACode_block ?_
     refine kR ?_
     refine kM 1 rfl ?_
     obtain ⟨hc10, h⟩ := guardO h
     refine AOps_q 28 _ rfl rfl rfl (QOp_indexAddr_sl _ _ _ _ _ _ _ _ rfl Try.underlying24 Try.sizeOf2 hc10.1 (by rw [intsD_length]; exact hc10.2) rfl rfl) ?_
     refine AOps_q 29 _ rfl rfl rfl (QOp_load_pv _ _ _ _ _ rfl Try.isAgg2 rfl (intsD_get _ _ 0 (by omega))) ?_
     refine kN 2 rfl ?_
     refine kR ?_
     refine kM 2 rfl ?_
     refine AOps_q 32 _ rfl rfl rfl (QOp_eql _ _ _ _ _ _ _ rfl rfl rfl) ?_
     refine AOps_nil ?_
     refine kI h rfl (fun h _ => ?_) (fun h _ => ?_)
     ·refine (ACode_region ?_)
      refine kM 2 rfl ?_
      refine AOps_q 35 _ rfl rfl rfl (QOp_add _ _ _ _ _ _ _ rfl rfl rfl) ?_
      refine AOps_buildSlice 36 _ _ _ [_] (intsD ([w64 (x7 + 1)])) _ rfl rfl rfl rfl rfl (by decide) Try.underlying24 Try.sizeOf2 (zero_of Try.typeInfo2 rfl) rfl rfl (intsD_one _) ?_
      obtain ⟨hc12, h⟩ := guardO h
      refine AOps_append 37 _ _ _ _ _ _ _ _ _ _ _ _ rfl rfl rfl rfl rfl rfl rfl Try.underlying24 Try.type2 rfl rfl rfl (by decide) rfl rfl rfl rfl (intsD_one _) (by rw [intsD_length, intsD_length]; exact hc12) ?_
      rw [intsD_app]
      refine kN 1 rfl ?_
      cases h
      exact Weak_trans (Weak_keep 0 hm [2, 8, 23, 24, 25] [0] _ _ rfl rfl rfl) (Weak_reset 0 hm hz [2, 8, 23, 24, 25] _ _ rfl rfl)
     refine ACode_skip ?_
     cases h
     exact Weak_keep 0 hm [2, 8, 23, 24, 25] [0] _ _ rfl rfl rfl
    refine (ACode_region ?_)
    refine AOps_q 38 _ rfl rfl rfl (QOp_add _ _ _ _ _ _ _ rfl rfl rfl) ?_
    refine kN 1 rfl ?_
    exact ⟨k0, _, _, Nat.lt_succ_self _, Weak_keep 0 hm [2, 8, 23, 24, 25] [0] _ _ rfl rfl rfl, _, _, rfl, rfl, h⟩
   refine ACode_exit ?_
   cases h
   exact Weak_keep 0 hm [8] [0] _ _ rfl rfl rfl
 refine kR ?_
 refine kN 3 rfl ?_
 refine ACode_ret ?_
 cases h
 exact ⟨_, _, Weak_reset 0 hm hz [6, 7] _ _ rfl rfl, _, _, [0], _, (.cons (ResV_tmp _ _ rfl) (.cons (ResV_tmp _ _ rfl) .nil)), rfl, rfl, rfl, rfl, rfl⟩

-- loop.example/g01362/spec.ClassOfColour
def spec_ClassOfColour_l0 (p1 : List Int) (p2 : Int) : Nat → Int → (List Int) → Option (List Int)
 | 0, _, _ => none
 | k0 + 1, x7, x8 => (if decide (x7 < (p1.length : Int)) then ((if 0 ≤ x7 ∧ x7 < (p1.length : Int) then (if decide ((p1.getD x7.toNat 0) = p2) then (if x8.length + ([w64 (x7 + 1)]).length ≤ 1099511627776 then some (x8 ++ ([w64 (x7 + 1)])) else none) else some x8) else none) : Option (List Int)).bind fun s13 => spec_ClassOfColour_l0 p1 p2 k0 (w64 (x7 + 1)) s13 else some x8)
def spec_ClassOfColour (k : Nat) (p0 : Int) (p1 : List Int) (p2 : Int) : Option (List Int × Int) :=
 (((spec_l07Code k p0 p1 0).bind fun r1 => (if !decide (r1 = 0) then some true else some (!(spec_l01In p2 0 (w64 (p0 - 1))))) : Option (Bool)).bind fun s4 => (if s4 then some (.inr ([], 2)) else some (.inl ())) : Option (Sum (Unit) (List Int × Int))).bind fun os6 => (match os6 with | .inl s6 => (spec_ClassOfColour_l0 p1 p2 k 0 ([] : List Int) : Option (List Int)).bind fun s14 => some (s14, 0) | .inr rr => some rr)
set_option maxRecDepth 100000 in
theorem spec_ClassOfColour_ac (k : Nat) (p0 : Int) (p1 : List Int) (p2 : Int) (r : List Int × Int) (h : spec_ClassOfColour k p0 p1 p2 = some r) : AC Try.prog 24 [iV p0, .d (.sl none (intsD p1)), iV p2] [] (fun res H' => res = [.d (.sl none (intsD r.1)), iV r.2] ∧ H' = []) := by
 refine AC_of_body true Try.func24 rfl Try.ntmps24 (rvs := [.tmp 6, .tmp 7]) rfl rfl (fun G hG => ?_)
 have hm : G.H.length = 0 := by rw [hG]; rfl
 have hz : zeroG G.H = true := by rw [hG]; rfl
 unfold spec_ClassOfColour at h
 refine kR ?_
 refine kN 2 rfl ?_
 refine kO (fun s6 => [(1, .d (.sl none (intsD p1))), (2, iV p2)]) (fun s6 => []) h (fun os6 h hks6 => ?_) (fun s6 h => ?_)
 ·refine kB (fun s4 => [(1, .d (.sl none (intsD p1))), (2, iV p2), (20, bV s4)]) (fun s4 => []) h (fun s4 h => ?_) (fun s4 h => ?_)
  ·refine (ACode_region ?_)
   refine kM 2 rfl ?_
   obtain ⟨r1, hr1, h⟩ := bindO h
   refine kC [] 12 (iV r1) [] rfl Try.call81 rfl rfl (spec_l07Code_ac k p0 p1 0 _ hr1) rfl ?_
   refine AOps_q 13 _ rfl rfl rfl (QOp_neq _ _ _ _ _ _ _ rfl rfl rfl) ?_
   refine kM 1 rfl ?_
   refine AOps_case 14 _ rfl (fun hb2 => ?_) (fun hb2 => ?_)
   ·have h := iteT hb2 h
    refine AOps_skip 15 rfl rfl rfl ?_
    refine AOps_skip 16 rfl rfl rfl ?_
    refine AOps_skip 17 rfl rfl rfl ?_
    refine AOps_skip 18 rfl rfl rfl ?_
    refine AOps_skip 19 rfl rfl rfl ?_
    refine kN 1 rfl ?_
    cases h
    exact Weak_keep 0 hm [1, 2, 20] [] _ _ rfl rfl rfl
   have h := iteF hb2 h
   refine kM 2 rfl ?_
   refine AOps_q 17 _ rfl rfl rfl (QOp_sub _ _ _ _ _ _ _ rfl rfl rfl) ?_
   refine kC [] 18 (bV (spec_l01In p2 0 (w64 (p0 - 1)))) [] rfl Try.call100 rfl rfl (spec_l01In_ac p2 0 (w64 (p0 - 1))) rfl ?_
   refine AOps_q 19 _ rfl rfl rfl (QOp_not _ _ _ rfl rfl) ?_
   refine kN 1 rfl ?_
   cases h
   exact Weak_keep 0 hm [1, 2, 20] [] _ _ rfl rfl rfl
  refine kI h rfl (fun h _ => ?_) (fun h _ => ?_)
  ·refine kR ?_
   refine kN 2 rfl ?_
   refine ACode_ret ?_
   cases h
   have h := hks6
   cases h
   exact ⟨_, _, fun r a w h => ⟨r, h⟩, _, _, [], _, (.cons (ResV_tmp _ _ rfl) (.cons (ResV_tmp _ _ rfl) .nil)), rfl, rfl, rfl, rfl, rfl⟩
  refine ACode_skip ?_
  cases h
  exact ⟨_, rfl, Weak_keep 0 hm [1, 2] [] _ _ rfl rfl rfl⟩
 refine kR ?_
 refine AOps_buildSlice 21 _ _ _ [] (intsD ([] : List Int)) _ rfl rfl rfl rfl rfl (by decide) Try.underlying24 Try.sizeOf2 (zero_of Try.typeInfo2 rfl) rfl rfl (intsD_one _) ?_
 refine kN 1 rfl ?_
 refine kB (fun s14 => [(8, .vec 0 0)]) (fun s14 => [.vec 0 (intsD s14)]) h (fun s14 h => ?_) (fun s14 h => ?_)
 ·refine kR ?_
  refine kN 1 rfl ?_
  refine ACode_block ?_
  refine ACode_loopW (fun k0 E H => ∃ (x7 : Int) (x8 : List Int), E = [(1, .d (.sl none (intsD p1))), (2, iV p2), (8, .vec 0 0), (9, iV x7)] ∧ H = [.vec 0 (intsD x8)] ∧ spec_ClassOfColour_l0 p1 p2 k0 x7 x8 = some s14) k _ _ (Weak_keep 0 hm [1, 2, 8, 9] [0] _ _ rfl rfl rfl) ⟨_, _, rfl, rfl, h⟩ ?_
  clear h
  rintro k0 E H ⟨x7, x8, rfl, rfl, h⟩
  cases k0 with
  | zero => cases (show (none : Option (List Int)) = some _ from h)
  | succ k0 =>
   rw [spec_ClassOfColour_l0] at h
   refine ACode_seq ?_
   refine kR ?_
   refine kM 2 rfl ?_
   refine AOps_q 24 _ rfl rfl rfl (QOp_len_sl _ _ _ _ _ _ _ (intsD_length _) rfl rfl rfl rfl Try.underlying24 rfl) ?_
   refine AOps_q 25 _ rfl rfl rfl (QOp_lss _ _ _ _ _ _ _ rfl rfl rfl) ?_
   refine AOps_nil ?_
   refine kI h rfl (fun h _ => ?_) (fun h _ => ?_)
   ·refine ACode_skip ?_
    refine kB (fun s13 => [(1, .d (.sl none (intsD p1))), (2, iV p2), (8, .vec 0 0), (9, iV x7)]) (fun s13 => [.vec 0 (intsD s13)]) h (fun s13 h => ?_) (fun s13 h => ?_)
    ·refine ACode_block ?_
     refine kR ?_
     refine kM 2 rfl ?_
     obtain ⟨hc10, h⟩ := guardO h
     refine AOps_q 30 _ rfl rfl rfl (QOp_indexAddr_sl _ _ _ _ _ _ _ _ rfl Try.underlying24 Try.sizeOf2 hc10.1 (by rw [intsD_length]; exact hc10.2) rfl rfl) ?_
     refine AOps_q 31 _ rfl rfl rfl (QOp_load_pv _ _ _ _ _ rfl Try.isAgg2 rfl (intsD_get _ _ 0 (by omega))) ?_
     refine kM 1 rfl ?_
     refine AOps_q 33 _ rfl rfl rfl (QOp_eql _ _ _ _ _ _ _ rfl rfl rfl) ?_
     refine AOps_nil ?_
     refine kI h rfl (fun h _ => ?_) (fun h _ => ?_)
     ·refine (ACode_region ?_)
      refine kM 2 rfl ?_
      refine AOps_q 36 _ rfl rfl rfl (QOp_add _ _ _ _ _ _ _ rfl rfl rfl) ?_
      refine AOps_buildSlice 37 _ _ _ [_] (intsD ([w64 (x7 + 1)])) _ rfl rfl rfl rfl rfl (by decide) Try.underlying24 Try.sizeOf2 (zero_of Try.typeInfo2 rfl) rfl rfl (intsD_one _) ?_
      obtain ⟨hc12, h⟩ := guardO h
      refine AOps_append 38 _ _ _ _ _ _ _ _ _ _ _ _ rfl rfl rfl rfl rfl rfl rfl Try.underlying24 Try.type2 rfl rfl rfl (by decide) rfl rfl rfl rfl (intsD_one _) (by rw [intsD_length, intsD_length]; exact hc12) ?_
      rw [intsD_app]
      refine kN 1 rfl ?_
      cases h
      exact Weak_trans (Weak_keep 0 hm [1, 2, 8, 9] [0] _ _ rfl rfl rfl) (Weak_reset 0 hm hz [1, 2, 8, 9] _ _ rfl rfl)
     refine ACode_skip ?_
     cases h
     exact Weak_keep 0 hm [1, 2, 8, 9] [0] _ _ rfl rfl rfl
    refine (ACode_region ?_)
    refine kM 1 rfl ?_
    refine AOps_q 27 _ rfl rfl rfl (QOp_add _ _ _ _ _ _ _ rfl rfl rfl) ?_
    refine kN 1 rfl ?_
    exact ⟨k0, _, _, Nat.lt_succ_self _, Weak_keep 0 hm [1, 2, 8, 9] [0] _ _ rfl rfl rfl, _, _, rfl, rfl, h⟩
   refine ACode_exit ?_
   cases h
   exact Weak_keep 0 hm [8] [0] _ _ rfl rfl rfl
 refine kR ?_
 refine kN 3 rfl ?_
 refine ACode_ret ?_
 cases h
 exact ⟨_, _, fun r a w h => ⟨r, h⟩, _, _, [], _, (.cons (ResV_tmp _ _ rfl) (.cons (ResV_tmp _ _ rfl) .nil)), rfl, rfl, rfl, rfl, rfl⟩

-- loop.example/g01362/laws.FnPartColourings
def laws_FnPartColourings_l0 (r3 : Int × List Int) : Nat → Int → (List Int) → Option (List Int)
 | 0, _, _ => none
 | k0 + 1, x13, x14 => (if decide (x13 < r3.1) then (if x14.length + ([3]).length ≤ 1099511627776 then laws_FnPartColourings_l0 r3 k0 (w64 (x13 + 1)) (x14 ++ ([3])) else none) else some x14)
def laws_FnPartColourings (k : Nat) (p0 : List UInt8) : Option (Bool) :=
 (if (laws_big p0) then some true else (spec_DrawColouringOfPart k p0).bind fun r3 => (impl_ColouringOfPart k r3.1 r3.2).bind fun r4 => (spec_ColouringOfPart k r3.1 r3.2).bind fun r5 => (letO (if !decide (r4.2 = r5.2) then true else !(r4.1.eqb r5.1)) fun (s7 : Bool) => (if s7 then some (.inr false) else some (.inl ())) : Option (Sum (Unit) (Bool))).bind fun os9 => (match os9 with | .inl s9 => ((if decide (r4.2 = 0) then (impl_PartOfColouring k r4.1).bind fun r11 => (impl_IsFree k r3.1 r3.2 0).bind fun r12 => (laws_FnPartColourings_l0 r3 k 0 ([] : List Int) : Option (List Int)).bind fun s17 => (impl_AvoidsSizes k r4.1 s17).bind fun r18 => ((if !decide (r11.2 = 0) then some true else (if !decide (r12.2 = 0) then some true else (if !decide (r18.2 = 0) then some true else (laws_likeInts k (r11.1.getD []) r3.2).bind fun r22 => (if !r22 then some true else some (!(r18.1 == r12.1)))))) : Option (Bool)).bind fun s24 => (if s24 then some (.inr false) else some (.inl ())) else some (.inl ())) : Option (Sum (Unit) (Bool))).bind fun os26 => (match os26 with | .inl s26 => (spec_DrawPartOfColouring k p0).bind fun r27 => (impl_PartOfColouring k r27).bind fun r28 => (spec_PartOfColouring k r27).bind fun r29 => (spec_DrawReflectPart k p0).bind fun r30 => (impl_ReflectPart k r30.1 r30.2).bind fun r31 => (spec_ReflectPart k r30.1 r30.2).bind fun r32 => (spec_DrawClassOfColour k p0).bind fun r33 => (impl_ClassOfColour k r33.1 r33.2.1 r33.2.2).bind fun r34 => (spec_ClassOfColour k r33.1 r33.2.1 r33.2.2).bind fun r35 => (((if !decide (r28.2 = r29.2) then some true else (laws_likeInts k (r28.1.getD []) r29.1).bind fun r37 => (if !r37 then some true else (if !decide (r31.2 = r32.2) then some true else (laws_likeInts k r31.1 r32.1).bind fun r40 => (if !r40 then some true else (if !decide (r34.2 = r35.2) then some true else (laws_likeInts k (r34.1.getD []) r35.1).bind fun r43 => some (!r43)))))) : Option (Bool)).bind fun s44 => (if s44 then some (.inr false) else some (.inl ())) : Option (Sum (Unit) (Bool))).bind fun os46 => (match os46 with | .inl s46 => (if decide (r28.2 = 0) then (impl_ColouringOfPart k r27.k (r28.1.getD [])).bind fun r48 => letO (if decide (r48.2 = 0) then (r48.1.eqb r27) else false) fun (s50 : Bool) => some s50 else some true) | .inr rr => some rr) | .inr rr => some rr) | .inr rr => some rr))
set_option maxRecDepth 100000 in
theorem laws_FnPartColourings_ac (k : Nat) (p0 : List UInt8) (r : Bool) (h : laws_FnPartColourings k p0 = some r) : AC Try.prog 3 [.d (.sl none (bysD p0))] [] (fun res H' => res = [bV r] ∧ H' = []) := by
 refine AC_of_body true Try.func3 rfl Try.ntmps3 (rvs := [.tmp 2]) rfl rfl (fun G hG => ?_)
 have hm : G.H.length = 0 := by rw [hG]; rfl
 have hz : zeroG G.H = true := by rw [hG]; rfl
 unfold laws_FnPartColourings at h
 refine kR ?_
 refine kN 1 rfl ?_
 refine ACode_seq ?_
 refine kR ?_
 refine kM 1 rfl ?_
 refine kC [] 38 (bV (laws_big p0)) [] rfl Try.call9 rfl rfl (laws_big_ac p0) rfl ?_
 refine AOps_nil ?_
 refine kI h rfl (fun h _ => ?_) (fun h _ => ?_)
 ·refine kR ?_
  refine kN 1 rfl ?_
  refine ACode_ret ?_
  cases h
  exact ⟨_, _, fun r a w h => ⟨r, h⟩, _, _, [], _, (.cons (ResV_tmp _ _ rfl) .nil), rfl, rfl, rfl, rfl, rfl⟩
 refine ACode_skip ?_
 refine kR ?_
 refine kM 1 rfl ?_
 obtain ⟨r3, hr3, h⟩ := bindO h
 refine kC [] 41 (.tup [iV r3.1, .d (.sl none (intsD r3.2))]) [] rfl Try.call10 rfl rfl (spec_DrawColouringOfPart_ac k p0 _ hr3) rfl ?_
 refine kN 5 rfl ?_
 refine kR ?_
 refine kM 2 rfl ?_
 obtain ⟨r4, hr4, h⟩ := bindO h
 refine kC [] 47 (.tup [.d (.agg (colD r4.1)), iV r4.2]) [] rfl Try.call11 rfl rfl (impl_ColouringOfPart_ac k r3.1 r3.2 _ hr4) rfl ?_
 refine kM 3 rfl ?_
 refine AOps_alloc 5 _ _ (colD Col.zero) (zero_of Try.typeInfo29 rfl) (by rfl) rfl rfl rfl rfl ?_
 refine AOps_store _ _ _ _ _ _ (colD _) _ _ rfl rfl rfl rfl rfl rfl rfl (colD_one _) (by rw [colD_length]; exact Try.sizeOf29) (by rw [colD_length, colD_length]; decide) (colD_whole _ _) ?_
 refine kN 1 rfl ?_
 refine kR ?_
 refine kM 2 rfl ?_
 obtain ⟨r5, hr5, h⟩ := bindO h
 refine kC [] 53 (.tup [.d (.agg (colD r5.1)), iV r5.2]) [.box (colD r4.1)] rfl Try.call12 rfl rfl (spec_ColouringOfPart_ac k r3.1 r3.2 _ hr5) rfl ?_
 refine kM 3 rfl ?_
 refine AOps_alloc 7 _ _ (colD Col.zero) (zero_of Try.typeInfo29 rfl) (by rfl) rfl rfl rfl rfl ?_
 refine AOps_store _ _ _ _ _ _ (colD _) _ _ rfl rfl rfl rfl rfl rfl rfl (colD_one _) (by rw [colD_length]; exact Try.sizeOf29) (by rw [colD_length, colD_length]; decide) (colD_whole _ _) ?_
 refine kN 1 rfl ?_
 refine kO (fun s9 => [(0, .d (.sl none (bysD p0))), (3, iV r3.1), (4, .d (.sl none (intsD r3.2))), (5, .ptr 0 0), (6, iV r4.2)]) (fun s9 => [.box (colD r4.1)]) h (fun os9 h hks9 => ?_) (fun s9 h => ?_)
 ·refine kL (fun s7 => [(0, .d (.sl none (bysD p0))), (3, iV r3.1), (4, .d (.sl none (intsD r3.2))), (5, .ptr 0 0), (6, iV r4.2), (63, bV s7)]) (fun s7 => [.box (colD r4.1)]) h (fun s7 h => ?_) (fun s7 h => ?_)
  ·refine (ACode_region ?_)
   refine kM 2 rfl ?_
   refine AOps_q 58 _ rfl rfl rfl (QOp_neq _ _ _ _ _ _ _ rfl rfl rfl) ?_
   refine kM 1 rfl ?_
   refine AOps_case 59 _ rfl (fun hb6 => ?_) (fun hb6 => ?_)
   ·have h := iteT hb6 h
    refine AOps_skip 60 rfl rfl rfl ?_
    refine AOps_skip 61 rfl rfl rfl ?_
    refine AOps_skip 62 rfl rfl rfl ?_
    refine kN 1 rfl ?_
    cases h
    exact Weak_keep 0 hm [0, 3, 4, 5, 6, 63] [0] _ _ rfl rfl rfl
   have h := iteF hb6 h
   refine AOps_q 60 _ rfl rfl rfl (QOp_loadN_ptr _ _ _ _ _ _ _ rfl Try.isAgg29 Try.sizeOf29 rfl rfl (colD_all _) (colD_length _)) ?_
   refine AOps_q 61 _ rfl rfl rfl (QOp_loadN_ptr _ _ _ _ _ _ _ rfl Try.isAgg29 Try.sizeOf29 rfl rfl (colD_all _) (colD_length _)) ?_
   refine AOps_q 62 _ rfl rfl rfl (QOp_neqCol _ _ _ _ _ _ _ _ _ _ _ _ rfl rfl rfl Try.underlying29 (by kernel_rfl) (by kernel_rfl) (by decide) (by decide) (by decide) rfl rfl rfl rfl rfl rfl Try.underlying2 Try.underlying27 Try.underlying5 Try.sizeOf5 Try.sizeOf27) ?_
   refine kN 1 rfl ?_
   cases h
   exact Weak_keep 0 hm [0, 3, 4, 5, 6, 63] [0] _ _ rfl rfl rfl
  refine kI h rfl (fun h _ => ?_) (fun h _ => ?_)
  ·refine kR ?_
   refine kN 1 rfl ?_
   refine ACode_ret ?_
   cases h
   have h := hks9
   cases h
   exact ⟨_, _, fun r a w h => ⟨r, h⟩, _, _, [], _, (.cons (ResV_tmp _ _ rfl) .nil), rfl, rfl, rfl, rfl, rfl⟩
  refine ACode_skip ?_
  cases h
  exact ⟨_, rfl, Weak_keep 0 hm [0, 3, 4, 5, 6] [0] _ _ rfl rfl rfl⟩
 refine kO (fun s26 => [(0, .d (.sl none (bysD p0)))]) (fun s26 => []) h (fun os26 h hks26 => ?_) (fun s26 h => ?_)
 ·refine kR ?_
  refine kM 1 rfl ?_
  refine AOps_q 65 _ rfl rfl rfl (QOp_eql _ _ _ _ _ _ _ rfl rfl rfl) ?_
  refine AOps_nil ?_
  refine kI h rfl (fun h _ => ?_) (fun h _ => ?_)
  ·refine kR ?_
   refine AOps_q 67 _ rfl rfl rfl (QOp_loadN_ptr _ _ _ _ _ _ _ rfl Try.isAgg29 Try.sizeOf29 rfl rfl (colD_all _) (colD_length _)) ?_
   obtain ⟨r11, hr11, h⟩ := bindO h
   refine kC [] 68 (.tup [.d (.sl none (intsD (r11.1.getD []))), iV r11.2]) [.box (colD r4.1)] rfl Try.call13 rfl rfl (AC_frz rfl (frz_cons frz_nil) (impl_PartOfColouring_ac k r4.1 _ hr11)) rfl ?_
   refine kN 5 rfl ?_
   refine kR ?_
   refine kM 2 rfl ?_
   obtain ⟨r12, hr12, h⟩ := bindO h
   refine kC [] 74 (.tup [bV r12.1, iV r12.2]) [.box (colD r4.1)] rfl Try.call14 rfl rfl (impl_IsFree_ac k r3.1 r3.2 0 _ hr12) rfl ?_
   refine kN 5 rfl ?_
   refine kR ?_
   refine AOps_buildSlice 77 _ _ _ [] (intsD ([] : List Int)) _ rfl rfl rfl rfl rfl (by decide) Try.underlying24 Try.sizeOf2 (zero_of Try.typeInfo2 rfl) rfl rfl (intsD_one _) ?_
   refine kN 1 rfl ?_
   refine kB (fun s17 => [(0, .d (.sl none (bysD p0))), (4, .d (.sl none (intsD r3.2))), (5, .ptr 0 0), (9, .d (.sl none (intsD (r11.1.getD [])))), (10, iV r11.2), (11, bV r12.1), (12, iV r12.2), (13, .vec 1 0)]) (fun s17 => [.box (colD r4.1), .vec 0 (intsD s17)]) h (fun s17 h => ?_) (fun s17 h => ?_)
   ·refine kR ?_
    refine kN 1 rfl ?_
    refine ACode_block ?_
    refine ACode_loopW (fun k0 E H => ∃ (x13 : Int) (x14 : List Int), E = [(0, .d (.sl none (bysD p0))), (3, iV r3.1), (4, .d (.sl none (intsD r3.2))), (5, .ptr 0 0), (9, .d (.sl none (intsD (r11.1.getD [])))), (10, iV r11.2), (11, bV r12.1), (12, iV r12.2), (13, .vec 1 0), (14, iV x13)] ∧ H = [.box (colD r4.1), .vec 0 (intsD x14)] ∧ laws_FnPartColourings_l0 r3 k0 x13 x14 = some s17) k _ _ (Weak_keep 0 hm [0, 3, 4, 5, 9, 10, 11, 12, 13, 14] [0, 1] _ _ rfl rfl rfl) ⟨_, _, rfl, rfl, h⟩ ?_
    clear h
    rintro k0 E H ⟨x13, x14, rfl, rfl, h⟩
    cases k0 with
    | zero => cases (show (none : Option (List Int)) = some _ from h)
    | succ k0 =>
     rw [laws_FnPartColourings_l0] at h
     refine ACode_seq ?_
     refine kR ?_
     refine kM 2 rfl ?_
     refine AOps_q 80 _ rfl rfl rfl (QOp_lss _ _ _ _ _ _ _ rfl rfl rfl) ?_
     refine AOps_nil ?_
     refine kI h rfl (fun h _ => ?_) (fun h _ => ?_)
     ·refine ACode_skip ?_
      refine ACode_seq ?_
      refine ACode_block ?_
      refine (ACode_region ?_)
      refine kM 1 rfl ?_
      refine AOps_buildSlice 84 _ _ _ [_] (intsD ([3])) _ rfl rfl rfl rfl rfl (by decide) Try.underlying24 Try.sizeOf2 (zero_of Try.typeInfo2 rfl) rfl rfl (intsD_one _) ?_
      obtain ⟨hc16, h⟩ := guardO h
      refine AOps_append 85 _ _ _ _ _ _ _ _ _ _ _ _ rfl rfl rfl rfl rfl rfl rfl Try.underlying24 Try.type2 rfl rfl rfl (by decide) rfl rfl rfl rfl (intsD_one _) (by rw [intsD_length, intsD_length]; exact hc16) ?_
      rw [intsD_app]
      refine kN 1 rfl ?_
      refine (ACode_region ?_)
      refine kM 1 rfl ?_
      refine AOps_q 82 _ rfl rfl rfl (QOp_add _ _ _ _ _ _ _ rfl rfl rfl) ?_
      refine kN 1 rfl ?_
      exact ⟨k0, _, _, Nat.lt_succ_self _, Weak_trans (Weak_keep 0 hm [0, 3, 4, 5, 9, 10, 11, 12, 13, 14] [0, 1] _ _ rfl rfl rfl) (Weak_reset 0 hm hz [0, 3, 4, 5, 9, 10, 11, 12, 13, 14] _ _ rfl rfl), _, _, rfl, rfl, h⟩
     refine ACode_exit ?_
     cases h
     exact Weak_keep 0 hm [0, 4, 5, 9, 10, 11, 12, 13] [0, 1] _ _ rfl rfl rfl
   refine kR ?_
   refine AOps_q 87 _ rfl rfl rfl (QOp_loadN_ptr _ _ _ _ _ _ _ rfl Try.isAgg29 Try.sizeOf29 rfl rfl (colD_all _) (colD_length _)) ?_
   refine kM 1 rfl ?_
   obtain ⟨r18, hr18, h⟩ := bindO h
   refine AOps_callL [] 89 _ _ _ _ _ _ _ _ _ _ rfl rfl rfl rfl rfl rfl rfl Try.call15 rfl (nodupB_sound _ rfl) rfl rfl rfl (impl_AvoidsSizes_ac k r4.1 s17 _ hr18) ?_
   rintro _ _ ⟨rfl, rfl⟩
   refine ⟨(fun _ h => nomatch h), (allc (flat_s _) (allc (flat_s _) (fun _ h => nomatch h))), AOps_as 89 (v' := .tup [bV r18.1, iV r18.2]) (H' := [.box (colD r4.1), .vec 0 (intsD s17)]) rfl rfl ?_⟩
   refine kN 5 rfl ?_
   refine kB (fun s24 => [(0, .d (.sl none (bysD p0))), (112, bV s24)]) (fun s24 => []) h (fun s24 h => ?_) (fun s24 h => ?_)
   ·refine (ACode_region ?_)
    refine kM 1 rfl ?_
    refine AOps_q 93 _ rfl rfl rfl (QOp_neq _ _ _ _ _ _ _ rfl rfl rfl) ?_
    refine kM 1 rfl ?_
    refine AOps_case 94 _ rfl (fun hb19 => ?_) (fun hb19 => ?_)
    ·have h := iteT hb19 h
     refine AOps_skip 95 rfl rfl rfl ?_
     refine AOps_skip 96 rfl rfl rfl ?_
     refine kM 2 rfl ?_
     refine AOps_skip 99 rfl rfl rfl ?_
     refine AOps_skip 100 rfl rfl rfl ?_
     refine kM 2 rfl ?_
     refine AOps_skip 103 rfl rfl rfl ?_
     refine AOps_skip 104 rfl rfl rfl ?_
     refine AOps_skip 105 rfl rfl rfl ?_
     refine AOps_skip 106 rfl rfl rfl ?_
     refine kM 2 rfl ?_
     refine AOps_skip 109 rfl rfl rfl ?_
     refine AOps_skip 110 rfl rfl rfl ?_
     refine AOps_skip 111 rfl rfl rfl ?_
     refine kN 1 rfl ?_
     cases h
     exact Weak_keep 0 hm [0, 112] [] _ _ rfl rfl rfl
    have h := iteF hb19 h
    refine kM 1 rfl ?_
    refine AOps_q 96 _ rfl rfl rfl (QOp_neq _ _ _ _ _ _ _ rfl rfl rfl) ?_
    refine kM 2 rfl ?_
    refine AOps_case 98 _ rfl (fun hb20 => ?_) (fun hb20 => ?_)
    ·have h := iteT hb20 h
     refine AOps_skip 99 rfl rfl rfl ?_
     refine AOps_skip 100 rfl rfl rfl ?_
     refine kM 2 rfl ?_
     refine AOps_skip 103 rfl rfl rfl ?_
     refine AOps_skip 104 rfl rfl rfl ?_
     refine AOps_skip 105 rfl rfl rfl ?_
     refine AOps_skip 106 rfl rfl rfl ?_
     refine kM 2 rfl ?_
     refine AOps_skip 109 rfl rfl rfl ?_
     refine AOps_skip 110 rfl rfl rfl ?_
     refine AOps_skip 111 rfl rfl rfl ?_
     refine kN 1 rfl ?_
     cases h
     exact Weak_keep 0 hm [0, 112] [] _ _ rfl rfl rfl
    have h := iteF hb20 h
    refine kM 1 rfl ?_
    refine AOps_q 100 _ rfl rfl rfl (QOp_neq _ _ _ _ _ _ _ rfl rfl rfl) ?_
    refine kM 2 rfl ?_
    refine AOps_case 102 _ rfl (fun hb21 => ?_) (fun hb21 => ?_)
    ·have h := iteT hb21 h
     refine AOps_skip 103 rfl rfl rfl ?_
     refine AOps_skip 104 rfl rfl rfl ?_
     refine AOps_skip 105 rfl rfl rfl ?_
     refine AOps_skip 106 rfl rfl rfl ?_
     refine kM 2 rfl ?_
     refine AOps_skip 109 rfl rfl rfl ?_
     refine AOps_skip 110 rfl rfl rfl ?_
     refine AOps_skip 111 rfl rfl rfl ?_
     refine kN 1 rfl ?_
     cases h
     exact Weak_keep 0 hm [0, 112] [] _ _ rfl rfl rfl
    have h := iteF hb21 h
    refine kM 2 rfl ?_
    obtain ⟨r22, hr22, h⟩ := bindO h
    refine kC [] 105 (bV r22) [.box (colD r4.1), .vec 0 (intsD s17)] rfl Try.call16 rfl rfl (laws_likeInts_ac k (r11.1.getD []) r3.2 _ hr22) rfl ?_
    refine AOps_q 106 _ rfl rfl rfl (QOp_not _ _ _ rfl rfl) ?_
    refine kM 2 rfl ?_
    refine AOps_case 108 _ rfl (fun hb23 => ?_) (fun hb23 => ?_)
    ·have h := iteT hb23 h
     refine AOps_skip 109 rfl rfl rfl ?_
     refine AOps_skip 110 rfl rfl rfl ?_
     refine AOps_skip 111 rfl rfl rfl ?_
     refine kN 1 rfl ?_
     cases h
     exact Weak_keep 0 hm [0, 112] [] _ _ rfl rfl rfl
    have h := iteF hb23 h
    refine kM 2 rfl ?_
    refine AOps_q 111 _ rfl rfl rfl (QOp_bneq _ _ _ _ _ _ rfl rfl rfl Try.underlying4) ?_
    refine kN 1 rfl ?_
    cases h
    exact Weak_keep 0 hm [0, 112] [] _ _ rfl rfl rfl
   refine kI h rfl (fun h _ => ?_) (fun h _ => ?_)
   ·refine kR ?_
    refine kN 1 rfl ?_
    refine ACode_ret ?_
    cases h
    have h := hks26
    cases h
    exact ⟨_, _, fun r a w h => ⟨r, h⟩, _, _, [], _, (.cons (ResV_tmp _ _ rfl) .nil), rfl, rfl, rfl, rfl, rfl⟩
   refine ACode_skip ?_
   cases h
   exact ⟨_, rfl, Weak_keep 0 hm [0] [] _ _ rfl rfl rfl⟩
  refine ACode_skip ?_
  cases h
  exact ⟨_, rfl, Weak_keep 0 hm [0] [] _ _ rfl rfl rfl⟩
 refine kR ?_
 refine kM 1 rfl ?_
 obtain ⟨r27, hr27, h⟩ := bindO h
 refine kC [] 114 (.d (.agg (colD r27))) [] rfl Try.call17 rfl rfl (spec_DrawPartOfColouring_ac k p0 _ hr27) rfl ?_
 refine AOps_alloc 17 _ _ (colD Col.zero) (zero_of Try.typeInfo29 rfl) (by rfl) rfl rfl rfl rfl ?_
 refine AOps_store _ _ _ _ _ _ (colD _) _ _ rfl rfl rfl rfl rfl rfl rfl (colD_one _) (by rw [colD_length]; exact Try.sizeOf29) (by rw [colD_length, colD_length]; decide) (colD_whole _ _) ?_
 refine AOps_nil ?_
 refine kR ?_
 refine AOps_q 116 _ rfl rfl rfl (QOp_loadN_ptr _ _ _ _ _ _ _ rfl Try.isAgg29 Try.sizeOf29 rfl rfl (colD_all _) (colD_length _)) ?_
 obtain ⟨r28, hr28, h⟩ := bindO h
 refine kC [] 117 (.tup [.d (.sl none (intsD (r28.1.getD []))), iV r28.2]) [.box (colD r27)] rfl Try.call13 rfl rfl (AC_frz rfl (frz_cons frz_nil) (impl_PartOfColouring_ac k r27 _ hr28)) rfl ?_
 refine kN 5 rfl ?_
 refine kR ?_
 refine AOps_q 121 _ rfl rfl rfl (QOp_loadN_ptr _ _ _ _ _ _ _ rfl Try.isAgg29 Try.sizeOf29 rfl rfl (colD_all _) (colD_length _)) ?_
 obtain ⟨r29, hr29, h⟩ := bindO h
 refine kC [] 122 (.tup [.d (.sl none (intsD r29.1)), iV r29.2]) [.box (colD r27)] rfl Try.call18 rfl rfl (spec_PartOfColouring_ac k r27 _ hr29) rfl ?_
 refine kN 5 rfl ?_
 refine kR ?_
 refine kM 1 rfl ?_
 obtain ⟨r30, hr30, h⟩ := bindO h
 refine kC [] 127 (.tup [iV r30.1, .vec 1 0]) [.box (colD r27), .vec 0 (intsD r30.2)] rfl Try.call19 rfl rfl (spec_DrawReflectPart_ac k p0 _ hr30) rfl ?_
 refine kN 5 rfl ?_
 refine kR ?_
 refine kM 2 rfl ?_
 refine AOps_freezeL [23, 129, 132] 1 0 _ (allc (rfl) (allc (rfl) (allc (rfl) (fun _ h => nomatch h)))) rfl ?_
 obtain ⟨r31, hr31, h⟩ := bindO h
 refine kC [] 133 (.tup [.d (.sl none (intsD r31.1)), iV r31.2]) [.box (colD r27), .gone] rfl Try.call20 rfl rfl (impl_ReflectPart_ac k r30.1 r30.2 _ hr31) rfl ?_
 refine kN 5 rfl ?_
 refine kR ?_
 refine kM 2 rfl ?_
 obtain ⟨r32, hr32, h⟩ := bindO h
 refine kC [] 139 (.tup [.d (.sl none (intsD r32.1)), iV r32.2]) [.box (colD r27), .gone] rfl Try.call21 rfl rfl (spec_ReflectPart_ac k r30.1 r30.2 _ hr32) rfl ?_
 refine kN 5 rfl ?_
 refine kR ?_
 refine kM 1 rfl ?_
 obtain ⟨r33, hr33, h⟩ := bindO h
 refine kC [] 144 (.tup [iV r33.1, .vec 2 0, iV r33.2.2]) [.box (colD r27), .gone, .vec 0 (intsD r33.2.1)] rfl Try.call22 rfl rfl (spec_DrawClassOfColour_ac k p0 _ hr33) rfl ?_
 refine kN 7 rfl ?_
 refine kR ?_
 refine kM 3 rfl ?_
 refine AOps_freezeL [29, 146, 150] 2 0 _ (allc (rfl) (allc (rfl) (allc (rfl) (fun _ h => nomatch h)))) rfl ?_
 obtain ⟨r34, hr34, h⟩ := bindO h
 refine kC [] 152 (.tup [.d (.sl none (intsD (r34.1.getD []))), iV r34.2]) [.box (colD r27), .gone, .gone] rfl Try.call23 rfl rfl (AC_frz rfl (frz_cons frz_nil) (impl_ClassOfColour_ac k r33.1 r33.2.1 r33.2.2 _ hr34)) rfl ?_
 refine kN 5 rfl ?_
 refine kR ?_
 refine kM 3 rfl ?_
 obtain ⟨r35, hr35, h⟩ := bindO h
 refine kC [] 159 (.tup [.d (.sl none (intsD r35.1)), iV r35.2]) [.box (colD r27), .gone, .gone] rfl Try.call24 rfl rfl (spec_ClassOfColour_ac k r33.1 r33.2.1 r33.2.2 _ hr35) rfl ?_
 refine kN 5 rfl ?_
 refine kO (fun s46 => [(17, .ptr 0 0), (18, .d (.sl none (intsD (r28.1.getD [])))), (19, iV r28.2)]) (fun s46 => [.box (colD r27)]) h (fun os46 h hks46 => ?_) (fun s46 h => ?_)
 ·refine kB (fun s44 => [(17, .ptr 0 0), (18, .d (.sl none (intsD (r28.1.getD [])))), (19, iV r28.2), (192, bV s44)]) (fun s44 => [.box (colD r27)]) h (fun s44 h => ?_) (fun s44 h => ?_)
  ·refine (ACode_region ?_)
   refine kM 2 rfl ?_
   refine AOps_q 164 _ rfl rfl rfl (QOp_neq _ _ _ _ _ _ _ rfl rfl rfl) ?_
   refine kM 1 rfl ?_
   refine AOps_case 165 _ rfl (fun hb36 => ?_) (fun hb36 => ?_)
   ·have h := iteT hb36 h
    refine AOps_skip 166 rfl rfl rfl ?_
    refine AOps_skip 167 rfl rfl rfl ?_
    refine AOps_skip 168 rfl rfl rfl ?_
    refine AOps_skip 169 rfl rfl rfl ?_
    refine kM 2 rfl ?_
    refine AOps_skip 172 rfl rfl rfl ?_
    refine AOps_skip 173 rfl rfl rfl ?_
    refine AOps_skip 174 rfl rfl rfl ?_
    refine kM 2 rfl ?_
    refine AOps_skip 177 rfl rfl rfl ?_
    refine AOps_skip 178 rfl rfl rfl ?_
    refine AOps_skip 179 rfl rfl rfl ?_
    refine AOps_skip 180 rfl rfl rfl ?_
    refine kM 2 rfl ?_
    refine AOps_skip 183 rfl rfl rfl ?_
    refine AOps_skip 184 rfl rfl rfl ?_
    refine AOps_skip 185 rfl rfl rfl ?_
    refine kM 2 rfl ?_
    refine AOps_skip 188 rfl rfl rfl ?_
    refine AOps_skip 189 rfl rfl rfl ?_
    refine AOps_skip 190 rfl rfl rfl ?_
    refine AOps_skip 191 rfl rfl rfl ?_
    refine kN 1 rfl ?_
    cases h
    exact Weak_keep 0 hm [17, 18, 19, 192] [0] _ _ rfl rfl rfl
   have h := iteF hb36 h
   refine kM 2 rfl ?_
   obtain ⟨r37, hr37, h⟩ := bindO h
   refine kC [] 168 (bV r37) [.box (colD r27), .gone, .gone] rfl Try.call16 rfl rfl (laws_likeInts_ac k (r28.1.getD []) r29.1 _ hr37) rfl ?_
   refine AOps_q 169 _ rfl rfl rfl (QOp_not _ _ _ rfl rfl) ?_
   refine kM 2 rfl ?_
   refine AOps_case 171 _ rfl (fun hb38 => ?_) (fun hb38 => ?_)
   ·have h := iteT hb38 h
    refine AOps_skip 172 rfl rfl rfl ?_
    refine AOps_skip 173 rfl rfl rfl ?_
    refine AOps_skip 174 rfl rfl rfl ?_
    refine kM 2 rfl ?_
    refine AOps_skip 177 rfl rfl rfl ?_
    refine AOps_skip 178 rfl rfl rfl ?_
    refine AOps_skip 179 rfl rfl rfl ?_
    refine AOps_skip 180 rfl rfl rfl ?_
    refine kM 2 rfl ?_
    refine AOps_skip 183 rfl rfl rfl ?_
    refine AOps_skip 184 rfl rfl rfl ?_
    refine AOps_skip 185 rfl rfl rfl ?_
    refine kM 2 rfl ?_
    refine AOps_skip 188 rfl rfl rfl ?_
    refine AOps_skip 189 rfl rfl rfl ?_
    refine AOps_skip 190 rfl rfl rfl ?_
    refine AOps_skip 191 rfl rfl rfl ?_
    refine kN 1 rfl ?_
    cases h
    exact Weak_keep 0 hm [17, 18, 19, 192] [0] _ _ rfl rfl rfl
   have h := iteF hb38 h
   refine kM 2 rfl ?_
   refine AOps_q 174 _ rfl rfl rfl (QOp_neq _ _ _ _ _ _ _ rfl rfl rfl) ?_
   refine kM 2 rfl ?_
   refine AOps_case 176 _ rfl (fun hb39 => ?_) (fun hb39 => ?_)
   ·have h := iteT hb39 h
    refine AOps_skip 177 rfl rfl rfl ?_
    refine AOps_skip 178 rfl rfl rfl ?_
    refine AOps_skip 179 rfl rfl rfl ?_
    refine AOps_skip 180 rfl rfl rfl ?_
    refine kM 2 rfl ?_
    refine AOps_skip 183 rfl rfl rfl ?_
    refine AOps_skip 184 rfl rfl rfl ?_
    refine AOps_skip 185 rfl rfl rfl ?_
    refine kM 2 rfl ?_
    refine AOps_skip 188 rfl rfl rfl ?_
    refine AOps_skip 189 rfl rfl rfl ?_
    refine AOps_skip 190 rfl rfl rfl ?_
    refine AOps_skip 191 rfl rfl rfl ?_
    refine kN 1 rfl ?_
    cases h
    exact Weak_keep 0 hm [17, 18, 19, 192] [0] _ _ rfl rfl rfl
   have h := iteF hb39 h
   refine kM 2 rfl ?_
   obtain ⟨r40, hr40, h⟩ := bindO h
   refine kC [] 179 (bV r40) [.box (colD r27), .gone, .gone] rfl Try.call16 rfl rfl (laws_likeInts_ac k r31.1 r32.1 _ hr40) rfl ?_
   refine AOps_q 180 _ rfl rfl rfl (QOp_not _ _ _ rfl rfl) ?_
   refine kM 2 rfl ?_
   refine AOps_case 182 _ rfl (fun hb41 => ?_) (fun hb41 => ?_)
   ·have h := iteT hb41 h
    refine AOps_skip 183 rfl rfl rfl ?_
    refine AOps_skip 184 rfl rfl rfl ?_
    refine AOps_skip 185 rfl rfl rfl ?_
    refine kM 2 rfl ?_
    refine AOps_skip 188 rfl rfl rfl ?_
    refine AOps_skip 189 rfl rfl rfl ?_
    refine AOps_skip 190 rfl rfl rfl ?_
    refine AOps_skip 191 rfl rfl rfl ?_
    refine kN 1 rfl ?_
    cases h
    exact Weak_keep 0 hm [17, 18, 19, 192] [0] _ _ rfl rfl rfl
   have h := iteF hb41 h
   refine kM 2 rfl ?_
   refine AOps_q 185 _ rfl rfl rfl (QOp_neq _ _ _ _ _ _ _ rfl rfl rfl) ?_
   refine kM 2 rfl ?_
   refine AOps_case 187 _ rfl (fun hb42 => ?_) (fun hb42 => ?_)
   ·have h := iteT hb42 h
    refine AOps_skip 188 rfl rfl rfl ?_
    refine AOps_skip 189 rfl rfl rfl ?_
    refine AOps_skip 190 rfl rfl rfl ?_
    refine AOps_skip 191 rfl rfl rfl ?_
    refine kN 1 rfl ?_
    cases h
    exact Weak_keep 0 hm [17, 18, 19, 192] [0] _ _ rfl rfl rfl
   have h := iteF hb42 h
   refine kM 2 rfl ?_
   obtain ⟨r43, hr43, h⟩ := bindO h
   refine kC [] 190 (bV r43) [.box (colD r27), .gone, .gone] rfl Try.call16 rfl rfl (laws_likeInts_ac k (r34.1.getD []) r35.1 _ hr43) rfl ?_
   refine AOps_q 191 _ rfl rfl rfl (QOp_not _ _ _ rfl rfl) ?_
   refine kN 1 rfl ?_
   cases h
   exact Weak_keep 0 hm [17, 18, 19, 192] [0] _ _ rfl rfl rfl
  refine kI h rfl (fun h _ => ?_) (fun h _ => ?_)
  ·refine kR ?_
   refine kN 1 rfl ?_
   refine ACode_ret ?_
   cases h
   have h := hks46
   cases h
   exact ⟨_, _, fun r a w h => ⟨r, h⟩, _, _, [], _, (.cons (ResV_tmp _ _ rfl) .nil), rfl, rfl, rfl, rfl, rfl⟩
  refine ACode_skip ?_
  cases h
  exact ⟨_, rfl, Weak_keep 0 hm [17, 18, 19] [0] _ _ rfl rfl rfl⟩
 refine ACode_seq ?_
 refine kR ?_
 refine kM 1 rfl ?_
 refine AOps_q 194 _ rfl rfl rfl (QOp_eql _ _ _ _ _ _ _ rfl rfl rfl) ?_
 refine AOps_nil ?_
 refine kI h rfl (fun h _ => ?_) (fun h _ => ?_)
 ·refine kR ?_
  refine AOps_q 196 _ rfl rfl rfl (QOp_fieldAddr_ptr _ _ _ _ _ _ 1 _ _ rfl Try.underlying29 rfl _ Try.sizeOf2 rfl rfl rfl rfl) ?_
  refine AOps_q 197 _ rfl rfl rfl (QOp_load_ptr _ _ _ _ _ _ rfl Try.isAgg2 rfl rfl rfl) ?_
  refine kM 1 rfl ?_
  obtain ⟨r48, hr48, h⟩ := bindO h
  refine kC [] 199 (.tup [.d (.agg (colD r48.1)), iV r48.2]) [.box (colD r27)] rfl Try.call11 rfl rfl (impl_ColouringOfPart_ac k r27.k (r28.1.getD []) _ hr48) rfl ?_
  refine kM 3 rfl ?_
  refine AOps_alloc 35 _ _ (colD Col.zero) (zero_of Try.typeInfo29 rfl) (by rfl) rfl rfl rfl rfl ?_
  refine AOps_store _ _ _ _ _ _ (colD _) _ _ rfl rfl rfl rfl rfl rfl rfl (colD_one _) (by rw [colD_length]; exact Try.sizeOf29) (by rw [colD_length, colD_length]; decide) (colD_whole _ _) ?_
  refine kN 1 rfl ?_
  refine kL (fun s50 => [(2, bV s50)]) (fun s50 => []) h (fun s50 h => ?_) (fun s50 h => ?_)
  ·refine (ACode_region ?_)
   refine kM 1 rfl ?_
   refine AOps_q 203 _ rfl rfl rfl (QOp_eql _ _ _ _ _ _ _ rfl rfl rfl) ?_
   refine kM 1 rfl ?_
   refine AOps_case 204 _ rfl (fun hb49 => ?_) (fun hb49 => ?_)
   ·have h := iteT hb49 h
    refine AOps_q 205 _ rfl rfl rfl (QOp_loadN_ptr _ _ _ _ _ _ _ rfl Try.isAgg29 Try.sizeOf29 rfl rfl (colD_all _) (colD_length _)) ?_
    refine AOps_q 206 _ rfl rfl rfl (QOp_loadN_ptr _ _ _ _ _ _ _ rfl Try.isAgg29 Try.sizeOf29 rfl rfl (colD_all _) (colD_length _)) ?_
    refine AOps_q 207 _ rfl rfl rfl (QOp_eqCol _ _ _ _ _ _ _ _ _ _ _ _ rfl rfl rfl Try.underlying29 (by kernel_rfl) (by kernel_rfl) (by decide) (by decide) (by decide) rfl rfl rfl rfl rfl rfl Try.underlying2 Try.underlying27 Try.underlying5 Try.sizeOf5 Try.sizeOf27) ?_
    refine kN 2 rfl ?_
    cases h
    exact Weak_keep 0 hm [2] [] _ _ rfl rfl rfl
   have h := iteF hb49 h
   refine AOps_skip 205 rfl rfl rfl ?_
   refine AOps_skip 206 rfl rfl rfl ?_
   refine AOps_skip 207 rfl rfl rfl ?_
   refine kN 2 rfl ?_
   cases h
   exact Weak_keep 0 hm [2] [] _ _ rfl rfl rfl
  refine ACode_ret ?_
  cases h
  exact ⟨_, _, fun r a w h => ⟨r, h⟩, _, _, [], _, (.cons (ResV_tmp _ _ rfl) .nil), rfl, rfl, rfl, rfl, rfl⟩
 refine ACode_skip ?_
 refine kR ?_
 refine kN 1 rfl ?_
 refine ACode_ret ?_
 cases h
 exact ⟨_, _, fun r a w h => ⟨r, h⟩, _, _, [], _, (.cons (ResV_tmp _ _ rfl) .nil), rfl, rfl, rfl, rfl, rfl⟩

end Go.Proofs.Ytfoijbdnkkaceaa
