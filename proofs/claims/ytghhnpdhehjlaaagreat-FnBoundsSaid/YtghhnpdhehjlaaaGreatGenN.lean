/- Plain functions of the program and that the program computes them: printed by the own tool gen.py. No conditions. -/
import Derived.Test.YtghhnpdhehjlaaaGreatSrV
import Derived.Test.YtghhnpdhehjlaaaGreatDelV
import Derived.Test.YtghhnpdhehjlaaaGreatAb31
import Derived.Test.YtghhnpdhehjlaaaGreatCloV
import Derived.Test.YtghhnpdhehjlaaaGreatLon
import Derived.Test.YtghhnpdhehjlaaaGreatAb18
import Derived.Test.YtghhnpdhehjlaaaGreatAb27
import Derived.Test.YtghhnpdhehjlaaaGreatGenC
set_option linter.unusedVariables false
set_option linter.unusedSimpArgs false
namespace Go.Proofs.YtghhnpdhehjlaaaGreat
open Go Go.RowKit Ab

set_option maxRecDepth 100000 in
theorem keyed120_Tryz : Maps.Keyed Tryz.prog 120 := Maps.Keyed.of_law (deep_law_gate (by kernel_rfl) (Nat.le_of_ble_eq_true (by kernel_rfl)) (Nat.le_of_ble_eq_true (by kernel_rfl)) (by kernel_rfl) (by kernel_rfl))
set_option maxRecDepth 100000 in
theorem key120_Tryz {xs : List Int} (h : okK (.l xs) = true ∧ xs.length = 4) : ∃ kl, keyOf Tryz.prog 120 (MK.l xs).enc = some kl := keyA Tryz.underlying120 Tryz.underlying2 (by kernel_rfl) (by kernel_rfl) (m := 189) (by kernel_rfl) (by kernel_rfl) h.2 h.1
-- loop.example/g01362/impl.size[int64]
def impl_size (p0 : List Int) : Int :=
 (p0.length : Int)
set_option maxRecDepth 100000 in
theorem impl_size_ac (p0 : List Int) : AC Tryz.prog 63 [.d (.sl none (intsD p0))] [] (fun res H' => res = [iV (impl_size p0)] ∧ H' = []) := by
 refine AC_of_body true Tryz.func63 rfl Tryz.ntmps63 (rvs := [.tmp 2]) rfl rfl (fun G hG => ?_)
 have hm : G.H.length = 0 := by rw [hG]; rfl
 have hz : zeroG G.H = true := by rw [hG]; rfl
 obtain ⟨r, h⟩ : ∃ r, impl_size p0 = r := ⟨_, rfl⟩
 rw [h]
 unfold impl_size at h
 refine kR ?_
 refine kN 1 rfl ?_
 refine kR ?_
 refine kM 1 rfl ?_
 refine AOps_q 4 _ rfl rfl rfl (QOp_len_sl _ _ _ _ _ _ _ (intsD_length _) rfl rfl rfl rfl Tryz.underlying27 rfl) ?_
 refine kN 1 rfl ?_
 refine ACode_ret ?_
 cases h
 exact ⟨_, _, fun r a w h => ⟨r, h⟩, _, _, [], _, (.cons (ResV_tmp _ _ rfl) .nil), rfl, rfl, rfl, rfl, rfl⟩

-- loop.example/g01362/impl.neighbourBound
def impl_neighbourBound_l0 (self : (List Int) → (List (MK × Int)) → Option (Int × List (MK × Int))) (p0 : List Int) : Nat → Int → Bool → Int → (List (MK × Int)) → Option (Int × Bool × List (MK × Int))
 | 0, _, _, _, _ => none
 | k0 + 1, x15, x16, x17, x18 => (if decide (x17 < (p0.length : Int)) then ((if p0.isEmpty then none else (cloneA p0).bind fun r22 => (if 0 ≤ x17 ∧ x17 < (r22.length : Int) then (if 0 ≤ x17 ∧ x17 < (r22.length : Int) then (sortI (r22.set x17.toNat (w64 ((r22.getD x17.toNat 0) - 1)))).bind fun r25 => (self r25 x18).bind fun r26 => (if x16 then some (w64 (x15 + r26.1), decide (r26.1.tmod 2 = 0), r26.2) else some (w64 (x15 + r26.1), false, r26.2)) else none) else none)) : Option (Int × Bool × List (MK × Int))).bind fun s28 => impl_neighbourBound_l0 self p0 k0 s28.1 s28.2.1 (w64 (x17 + 1)) s28.2.2 else some (x15, x16, x18))
def impl_neighbourBound_body (self : (List Int) → (List (MK × Int)) → Option (Int × List (MK × Int))) (k : Nat) (p0 : List Int) (p1 : List (MK × Int)) : Option (Int × List (MK × Int)) :=
 (if (splicedL ([0, 0, 0, 0] : List Int) 0 4 p0).length = 4 then (if okK (MK.l (splicedL ([0, 0, 0, 0] : List Int) 0 4 p0)) = true ∧ (splicedL ([0, 0, 0, 0] : List Int) 0 4 p0).length = 4 then (if (lookM p1 (MK.l (splicedL ([0, 0, 0, 0] : List Int) 0 4 p0))).isSome then some (((lookM p1 (MK.l (splicedL ([0, 0, 0, 0] : List Int) 0 4 p0))).getD 0), p1) else (if p0.isEmpty then none else (cloneA p0).bind fun r6 => (delI r6).bind fun r7 => ((if 0 ≤ (0 : Int) ∧ (0 : Int) < (p0.length : Int) then (if decide ((p0.getD (0 : Int).toNat 0) = 1) then some (1, p1) else (if decide ((r7.length : Int) = 0) then some (2, p1) else (if decide ((r7.length : Int) = 1) then (if 0 ≤ (0 : Int) ∧ (0 : Int) < (r7.length : Int) then some ((r7.getD (0 : Int).toNat 0), p1) else none) else (if decide ((r7.length : Int) < (p0.length : Int)) then (self r7 p1).bind fun r14 => some (r14.1, r14.2) else (impl_neighbourBound_l0 self p0 k 0 true 0 p1 : Option (Int × Bool × List (MK × Int))).bind fun s29 => letO (if decide ((p0.length : Int) = 2) then s29.2.1 else false) fun (s32 : Bool) => (if s32 then some (w64 ((w64 (s29.1 + (w64 (2 - (impl_size p0))))) - 1), s29.2.2) else some (w64 (s29.1 + (w64 (2 - (impl_size p0)))), s29.2.2)))))) else none) : Option (Int × List (MK × Int))).bind fun s34 => (if (splicedL ([0, 0, 0, 0] : List Int) 0 4 p0).length = 4 then (if (okK (MK.l (splicedL ([0, 0, 0, 0] : List Int) 0 4 p0)) = true ∧ (splicedL ([0, 0, 0, 0] : List Int) 0 4 p0).length = 4) ∧ okI s34.1 = true ∧ s34.2.length < 4611686018427387904 then some (s34.1, ((MK.l (splicedL ([0, 0, 0, 0] : List Int) 0 4 p0), s34.1) :: s34.2)) else none) else none))) else none) else none)
def impl_neighbourBound : Nat → (List Int) → (List (MK × Int)) → Option (Int × List (MK × Int))
 | 0, _, _ => none
 | k + 1, p0, p1 => impl_neighbourBound_body (impl_neighbourBound k) k p0 p1
set_option maxRecDepth 100000 in
theorem impl_neighbourBound_ac {vp1 : Value} (k : Nat) (p0 : List Int) (p1 : List (MK × Int)) (r : Int × List (MK × Int)) (h : impl_neighbourBound k p0 p1 = some r) : AC Tryz.prog 65 [.d (.sl none (intsD p0)), .d (.s vp1)] [.mp vp1 (mapI Tryz.prog 120 2 p1)] (fun res H' => res = [iV r.1] ∧ H' = [.mp vp1 (mapI Tryz.prog 120 2 r.2)]) := by
 induction k generalizing p0 p1 r with
 | zero => simp [impl_neighbourBound] at h
 | succ k ih =>
  rw [impl_neighbourBound] at h
  obtain ⟨self, hself, hk⟩ : ∃ self : (List Int) → (List (MK × Int)) → Option (Int × List (MK × Int)), (∀ (p0 : List Int) (p1 : List (MK × Int)) (r : Int × List (MK × Int)), self p0 p1 = some r → AC Tryz.prog 65 [.d (.sl none (intsD p0)), .d (.s vp1)] [.mp vp1 (mapI Tryz.prog 120 2 p1)] (fun res H' => res = [iV r.1] ∧ H' = [.mp vp1 (mapI Tryz.prog 120 2 r.2)])) ∧ impl_neighbourBound k = self := ⟨impl_neighbourBound k, fun p0 p1 r h => ih p0 p1 r h, rfl⟩
  rw [hk] at h
  clear ih hk
  refine AC_of_body true Tryz.func65 rfl Tryz.ntmps65 (rvs := [.tmp 4]) rfl rfl (fun G hG => ?_)
  have hm : G.H.length = 1 := by rw [hG]; rfl
  have hz : zeroG G.H = true := by rw [hG]; rfl
  unfold impl_neighbourBound_body at h
  refine kR ?_
  refine kN 1 rfl ?_
  refine kR ?_
  refine AOps_q 14 _ rfl rfl rfl (QOp_buildA _ _ _ [] [] [] _ (intsD ([0, 0, 0, 0] : List Int)) (intsD ([0, 0, 0, 0] : List Int)) rfl rfl Tryz.underlying120 (zero_of Tryz.typeInfo120 rfl) Tryz.sizeOf2 (by decide) rfl (by rfl) (by rfl) (fun _ h => nomatch h)) ?_
  refine AOps_alloc 5 _ _ (intsD ([0, 0, 0, 0] : List Int)) (zero_of Tryz.typeInfo120 rfl) (by rfl) rfl rfl rfl rfl ?_
  refine AOps_store _ _ _ _ _ _ (intsD _) _ _ rfl rfl rfl rfl rfl rfl rfl (intsD_one _) (by rw [intsD_length]; exact Tryz.sizeOf120) (by rw [intsD_length]; exact Nat.le_refl _) (ints_whole ([0, 0, 0, 0] : List Int) ([0, 0, 0, 0] : List Int) rfl) ?_
  refine AOps_nil ?_
  refine kR ?_
  refine AOps_arrCopy 15 16 17 _ _ _ _ _ _ _ 1 4 _ (intsD ([0, 0, 0, 0] : List Int)) (intsD p0) rfl rfl rfl rfl Tryz.underlying120 Tryz.sizeOf2 rfl rfl rfl (by rw [intsD_length]; rfl) rfl rfl rfl rfl rfl rfl rfl (intsD_one _) (by decide) rfl rfl rfl rfl rfl rfl rfl Tryz.underlying27 (by kernel_rfl) (min p0.length 4) (by rw [intsD_length]) ?_
  rw [intsD_spl]
  refine AOps_nil ?_
  refine ACode_seq ?_
  refine kR ?_
  refine kM 1 rfl ?_
  obtain ⟨hc1, h⟩ := guardO h
  refine AOps_q 20 _ rfl rfl rfl (QOp_loadN_ptr _ _ _ _ _ _ _ rfl Tryz.isAgg120 Tryz.sizeOf120 rfl rfl (ints_all _ hc1) (by rw [intsD_length]; exact hc1)) ?_
  obtain ⟨hc2, h⟩ := guardO h
  refine AOps_q 21 _ rfl rfl rfl (QOp_lookup keyed120_Tryz Tryz.underlying71 Tryz.underlying2 (fun w => by kernel_rfl) 0 _ p1 (MK.l (splicedL ([0, 0, 0, 0] : List Int) 0 4 p0)) _ _ _ rfl rfl rfl rfl (isKey_l _) (key120_Tryz hc2)) ?_
  refine kN 5 rfl ?_
  refine kR ?_
  refine kN 1 rfl ?_
  refine kI h rfl (fun h _ => ?_) (fun h _ => ?_)
  ·refine kR ?_
   refine kN 2 rfl ?_
   refine ACode_ret ?_
   cases h
   exact ⟨_, _, fun r a w h => ⟨r, h⟩, _, _, [], _, (.cons (ResV_tmp _ _ rfl) .nil), rfl, rfl, rfl, rfl, rfl⟩
  refine ACode_skip ?_
  refine kR ?_
  refine kN 1 rfl ?_
  refine kR ?_
  refine kM 1 rfl ?_
  refine bsplit (p0.isEmpty) (fun hb4 => ?_) (fun hb4 => ?_)
  ·have h := iteT hb4 h
   cases h
  have h := iteF hb4 h
  obtain ⟨r6, hr6, h⟩ := bindO h
  refine kC [] 27 (.vec 2 0) [.mp vp1 (mapI Tryz.prog 120 2 p1), .box (intsD (splicedL ([0, 0, 0, 0] : List Int) 0 4 p0)), .vec 0 (intsD r6)] rfl Tryz.call109 rfl rfl (cloneA_ac p0 _ hb4 hr6) rfl ?_
  obtain ⟨r7, hr7, h⟩ := bindO h
  refine kC [2] 28 (.vec 2 1) [.mp vp1 (mapI Tryz.prog 120 2 p1), .box (intsD (splicedL ([0, 0, 0, 0] : List Int) 0 4 p0)), .vec 1 (intsD r7)] rfl Tryz.call125 rfl rfl (del_ac r6 _ hr7) rfl ?_
  refine kN 1 rfl ?_
  refine kB (fun s34 => [(1, .d (.s vp1)), (5, .ptr 1 0), (8, iV s34.1)]) (fun s34 => [.mp vp1 (mapI Tryz.prog 120 2 s34.2), .box (intsD (splicedL ([0, 0, 0, 0] : List Int) 0 4 p0))]) h (fun s34 h => ?_) (fun s34 h => ?_)
  ·refine ACode_block ?_
   refine kR ?_
   refine kM 1 rfl ?_
   obtain ⟨hc8, h⟩ := guardO h
   refine AOps_q 72 _ rfl rfl rfl (QOp_indexAddr_sl _ _ _ _ _ _ _ _ rfl Tryz.underlying27 Tryz.sizeOf2 hc8.1 (by rw [intsD_length]; exact hc8.2) rfl rfl) ?_
   refine AOps_q 73 _ rfl rfl rfl (QOp_load_pv _ _ _ _ _ rfl Tryz.isAgg2 rfl (intsD_get _ _ 0 (by omega))) ?_
   refine AOps_q 74 _ rfl rfl rfl (QOp_eql _ _ _ _ _ _ _ rfl rfl rfl) ?_
   refine kN 1 rfl ?_
   refine kI h rfl (fun h _ => ?_) (fun h _ => ?_)
   ·refine (ACode_region ?_)
    refine kN 1 rfl ?_
    cases h
    exact Weak_keep 1 hm [1, 5, 8] [1] _ _ rfl rfl rfl
   refine kR ?_
   refine kM 1 rfl ?_
   refine AOps_q 77 _ rfl rfl rfl (QOp_len_vec _ _ _ _ _ _ _ _ (intsD_length _) rfl rfl rfl rfl Tryz.underlying27 rfl rfl) ?_
   refine AOps_q 78 _ rfl rfl rfl (QOp_eql _ _ _ _ _ _ _ rfl rfl rfl) ?_
   refine kN 1 rfl ?_
   refine kI h rfl (fun h _ => ?_) (fun h _ => ?_)
   ·refine (ACode_region ?_)
    refine kN 1 rfl ?_
    cases h
    exact Weak_keep 1 hm [1, 5, 8] [1] _ _ rfl rfl rfl
   refine kR ?_
   refine kM 1 rfl ?_
   refine AOps_q 81 _ rfl rfl rfl (QOp_len_vec _ _ _ _ _ _ _ _ (intsD_length _) rfl rfl rfl rfl Tryz.underlying27 rfl rfl) ?_
   refine AOps_q 82 _ rfl rfl rfl (QOp_eql _ _ _ _ _ _ _ rfl rfl rfl) ?_
   refine kN 1 rfl ?_
   refine kI h rfl (fun h _ => ?_) (fun h _ => ?_)
   ·refine (ACode_region ?_)
    refine kM 1 rfl ?_
    obtain ⟨hc12, h⟩ := guardO h
    refine AOps_q 84 _ rfl rfl rfl (QOp_indexAddr_vec _ _ _ _ _ _ _ _ _ rfl Tryz.underlying27 Tryz.sizeOf2 hc12.1 (by rw [intsD_length]; exact hc12.2) rfl rfl rfl) ?_
    refine AOps_q 85 _ rfl rfl rfl (QOp_load_eptr _ _ _ _ _ _ _ rfl Tryz.isAgg2 rfl rfl (intsD_get _ _ 0 (by omega))) ?_
    refine kN 1 rfl ?_
    cases h
    exact Weak_keep 1 hm [1, 5, 8] [1] _ _ rfl rfl rfl
   refine kR ?_
   refine kM 1 rfl ?_
   refine AOps_q 88 _ rfl rfl rfl (QOp_len_vec _ _ _ _ _ _ _ _ (intsD_length _) rfl rfl rfl rfl Tryz.underlying27 rfl rfl) ?_
   refine kM 1 rfl ?_
   refine AOps_q 90 _ rfl rfl rfl (QOp_len_sl _ _ _ _ _ _ _ (intsD_length _) rfl rfl rfl rfl Tryz.underlying27 rfl) ?_
   refine AOps_q 91 _ rfl rfl rfl (QOp_lss _ _ _ _ _ _ _ rfl rfl rfl) ?_
   refine kN 1 rfl ?_
   refine kI h rfl (fun h _ => ?_) (fun h _ => ?_)
   ·refine (ACode_region ?_)
    refine kM 2 rfl ?_
    obtain ⟨r14, hr14, h⟩ := bindO h
    refine AOps_callL [0] 94 _ _ _ _ _ _ _ _ _ _ rfl rfl rfl rfl rfl rfl rfl Tryz.call65 rfl (nodupB_sound _ rfl) rfl rfl rfl (hself r7 p1 _ hr14) ?_
    rintro _ _ ⟨rfl, rfl⟩
    refine ⟨(allc (trivial) (fun _ h => nomatch h)), (allc (flat_s _) (fun _ h => nomatch h)), AOps_as 94 (v' := iV r14.1) (H' := [.mp vp1 (mapI Tryz.prog 120 2 r14.2), .box (intsD (splicedL ([0, 0, 0, 0] : List Int) 0 4 p0)), .vec 1 (intsD r7)]) rfl rfl ?_⟩
    refine kN 1 rfl ?_
    cases h
    exact Weak_keep 1 hm [1, 5, 8] [1] _ _ rfl rfl rfl
   refine kR ?_
   refine kN 1 rfl ?_
   refine kB (fun s29 => [(0, .d (.sl none (intsD p0))), (1, .d (.s vp1)), (5, .ptr 1 0), (8, iV s29.1), (10, bV s29.2.1)]) (fun s29 => [.mp vp1 (mapI Tryz.prog 120 2 s29.2.2), .box (intsD (splicedL ([0, 0, 0, 0] : List Int) 0 4 p0))]) h (fun s29 h => ?_) (fun s29 h => ?_)
   ·refine kR ?_
    refine kM 1 rfl ?_
    refine AOps_q 30 _ rfl rfl rfl (QOp_len_sl _ _ _ _ _ _ _ (intsD_length _) rfl rfl rfl rfl Tryz.underlying27 rfl) ?_
    refine kN 1 rfl ?_
    refine ACode_block ?_
    refine ACode_loopW (fun k0 E H => ∃ (x15 : Int) (x16 : Bool) (x17 : Int) (x18 : List (MK × Int)), E = [(0, .d (.sl none (intsD p0))), (1, .d (.s vp1)), (5, .ptr 1 0), (8, iV x15), (10, bV x16), (30, iV (p0.length : Int)), (31, iV x17)] ∧ H = [.mp vp1 (mapI Tryz.prog 120 2 x18), .box (intsD (splicedL ([0, 0, 0, 0] : List Int) 0 4 p0))] ∧ impl_neighbourBound_l0 self p0 k0 x15 x16 x17 x18 = some s29) k _ _ (Weak_keep 1 hm [0, 1, 5, 8, 10, 30, 31] [1] _ _ rfl rfl rfl) ⟨_, _, _, _, rfl, rfl, h⟩ ?_
    clear h
    rintro k0 E H ⟨x15, x16, x17, x18, rfl, rfl, h⟩
    cases k0 with
    | zero => cases (show (none : Option (Int × Bool × List (MK × Int))) = some _ from h)
    | succ k0 =>
     rw [impl_neighbourBound_l0] at h
     refine kR ?_
     refine AOps_q 32 _ rfl rfl rfl (QOp_lss _ _ _ _ _ _ _ rfl rfl rfl) ?_
     refine AOps_nil ?_
     refine ACode_seq ?_
     refine kI h rfl (fun h _ => ?_) (fun h _ => ?_)
     ·refine ACode_skip ?_
      refine kB (fun s28 => [(0, .d (.sl none (intsD p0))), (1, .d (.s vp1)), (5, .ptr 1 0), (8, iV s28.1), (10, bV s28.2.1), (30, iV (p0.length : Int)), (31, iV x17)]) (fun s28 => [.mp vp1 (mapI Tryz.prog 120 2 s28.2.2), .box (intsD (splicedL ([0, 0, 0, 0] : List Int) 0 4 p0))]) h (fun s28 h => ?_) (fun s28 h => ?_)
      ·refine ACode_block ?_
       refine kR ?_
       refine kN 2 rfl ?_
       refine kR ?_
       refine kM 1 rfl ?_
       refine bsplit (p0.isEmpty) (fun hb20 => ?_) (fun hb20 => ?_)
       ·have h := iteT hb20 h
        cases h
       have h := iteF hb20 h
       obtain ⟨r22, hr22, h⟩ := bindO h
       refine kC [] 35 (.vec 2 0) [.mp vp1 (mapI Tryz.prog 120 2 x18), .box (intsD (splicedL ([0, 0, 0, 0] : List Int) 0 4 p0)), .vec 0 (intsD r22)] rfl Tryz.call109 rfl rfl (cloneA_ac p0 _ hb20 hr22) rfl ?_
       refine kN 1 rfl ?_
       refine kR ?_
       refine kM 2 rfl ?_
       obtain ⟨hc23, h⟩ := guardO h
       refine AOps_q 38 _ rfl rfl rfl (QOp_indexAddr_vec _ _ _ _ _ _ _ _ _ rfl Tryz.underlying27 Tryz.sizeOf2 hc23.1 (by rw [intsD_length]; exact hc23.2) rfl rfl rfl) ?_
       refine AOps_q 39 _ rfl rfl rfl (QOp_load_eptr _ _ _ _ _ _ _ rfl Tryz.isAgg2 rfl rfl (intsD_get _ _ 0 (by omega))) ?_
       refine AOps_q 40 _ rfl rfl rfl (QOp_sub _ _ _ _ _ _ _ rfl rfl rfl) ?_
       obtain ⟨hc24, h⟩ := guardO h
       refine AOps_q 41 _ rfl rfl rfl (QOp_indexAddr_vec _ _ _ _ _ _ _ _ _ rfl Tryz.underlying27 Tryz.sizeOf2 hc24.1 (by rw [intsD_length]; exact hc24.2) rfl rfl rfl) ?_
       refine AOps_store_eptr _ _ _ _ _ _ (intsD r22) _ rfl rfl rfl rfl rfl rfl rfl Tryz.sizeOf2 (by rw [intsD_length]; omega) ?_
       rw [intsD_set]
       refine AOps_nil ?_
       refine kR ?_
       refine kM 1 rfl ?_
       obtain ⟨r25, hr25, h⟩ := bindO h
       refine kC [2] 43 (.tup []) [.mp vp1 (mapI Tryz.prog 120 2 x18), .box (intsD (splicedL ([0, 0, 0, 0] : List Int) 0 4 p0)), .vec 0 (intsD r25)] rfl Tryz.call127 rfl rfl (sortI_ac (r22.set x17.toNat (w64 ((r22.getD x17.toNat 0) - 1))) _ hr25) rfl ?_
       refine AOps_nil ?_
       refine kR ?_
       refine kM 2 rfl ?_
       obtain ⟨r26, hr26, h⟩ := bindO h
       refine AOps_callL [0] 46 _ _ _ _ _ _ _ _ _ _ rfl rfl rfl rfl rfl rfl rfl Tryz.call65 rfl (nodupB_sound _ rfl) rfl rfl rfl (hself r25 x18 _ hr26) ?_
       rintro _ _ ⟨rfl, rfl⟩
       refine ⟨(allc (trivial) (fun _ h => nomatch h)), (allc (flat_s _) (fun _ h => nomatch h)), AOps_as 46 (v' := iV r26.1) (H' := [.mp vp1 (mapI Tryz.prog 120 2 r26.2), .box (intsD (splicedL ([0, 0, 0, 0] : List Int) 0 4 p0)), .vec 0 (intsD r25)]) rfl rfl ?_⟩
       refine kN 1 rfl ?_
       refine kR ?_
       refine kM 2 rfl ?_
       refine AOps_q 49 _ rfl rfl rfl (QOp_add _ _ _ _ _ _ _ rfl rfl rfl) ?_
       refine kN 1 rfl ?_
       refine (ACode_region ?_)
       refine kM 2 rfl ?_
       refine AOps_case 51 _ rfl (fun hb27 => ?_) (fun hb27 => ?_)
       ·have h := iteT hb27 h
        refine kM 1 rfl ?_
        refine AOps_q 53 _ rfl rfl rfl (QOp_rem _ _ _ _ _ _ _ (by decide) rfl rfl rfl) ?_
        refine AOps_q 54 _ rfl rfl rfl (QOp_eql _ _ _ _ _ _ _ rfl rfl rfl) ?_
        refine kN 2 rfl ?_
        cases h
        exact Weak_keep 1 hm [0, 1, 5, 8, 10, 30, 31] [1] _ _ rfl rfl rfl
       have h := iteF hb27 h
       refine AOps_skip 52 rfl rfl rfl ?_
       refine AOps_skip 53 rfl rfl rfl ?_
       refine AOps_skip 54 rfl rfl rfl ?_
       refine kN 2 rfl ?_
       cases h
       exact Weak_keep 1 hm [0, 1, 5, 8, 10, 30, 31] [1] _ _ rfl rfl rfl
      refine (ACode_region ?_)
      refine AOps_q 56 _ rfl rfl rfl (QOp_add _ _ _ _ _ _ _ rfl rfl rfl) ?_
      refine kN 1 rfl ?_
      exact ⟨k0, _, _, Nat.lt_succ_self _, Weak_keep 1 hm [0, 1, 5, 8, 10, 30, 31] [1] _ _ rfl rfl rfl, _, _, _, _, rfl, rfl, h⟩
     refine ACode_exit ?_
     cases h
     exact Weak_keep 1 hm [0, 1, 5, 8, 10] [1] _ _ rfl rfl rfl
   refine kR ?_
   refine kM 2 rfl ?_
   refine kC [] 59 (iV (impl_size p0)) [.mp vp1 (mapI Tryz.prog 120 2 s29.2.2), .box (intsD (splicedL ([0, 0, 0, 0] : List Int) 0 4 p0))] rfl Tryz.call63 rfl rfl (impl_size_ac p0) rfl ?_
   refine AOps_q 60 _ rfl rfl rfl (QOp_sub _ _ _ _ _ _ _ rfl rfl rfl) ?_
   refine AOps_q 61 _ rfl rfl rfl (QOp_add _ _ _ _ _ _ _ rfl rfl rfl) ?_
   refine kN 1 rfl ?_
   refine kL (fun s32 => [(1, .d (.s vp1)), (5, .ptr 1 0), (8, iV (w64 (s29.1 + (w64 (2 - (impl_size p0)))))), (67, bV s32)]) (fun s32 => [.mp vp1 (mapI Tryz.prog 120 2 s29.2.2), .box (intsD (splicedL ([0, 0, 0, 0] : List Int) 0 4 p0))]) h (fun s32 h => ?_) (fun s32 h => ?_)
   ·refine (ACode_region ?_)
    refine kM 1 rfl ?_
    refine AOps_q 63 _ rfl rfl rfl (QOp_len_sl _ _ _ _ _ _ _ (intsD_length _) rfl rfl rfl rfl Tryz.underlying27 rfl) ?_
    refine AOps_q 64 _ rfl rfl rfl (QOp_eql _ _ _ _ _ _ _ rfl rfl rfl) ?_
    refine kM 1 rfl ?_
    refine AOps_case 65 _ rfl (fun hb31 => ?_) (fun hb31 => ?_)
    ·have h := iteT hb31 h
     refine kN 2 rfl ?_
     cases h
     exact Weak_keep 1 hm [1, 5, 8, 67] [1] _ _ rfl rfl rfl
    have h := iteF hb31 h
    refine AOps_skip 66 rfl rfl rfl ?_
    refine kN 1 rfl ?_
    cases h
    exact Weak_keep 1 hm [1, 5, 8, 67] [1] _ _ rfl rfl rfl
   refine kI h rfl (fun h _ => ?_) (fun h _ => ?_)
   ·refine (ACode_region ?_)
    refine kM 1 rfl ?_
    refine AOps_q 69 _ rfl rfl rfl (QOp_sub _ _ _ _ _ _ _ rfl rfl rfl) ?_
    refine kN 1 rfl ?_
    cases h
    exact Weak_keep 1 hm [1, 5, 8] [1] _ _ rfl rfl rfl
   refine ACode_skip ?_
   cases h
   exact Weak_keep 1 hm [1, 5, 8] [1] _ _ rfl rfl rfl
  refine kR ?_
  refine kM 1 rfl ?_
  obtain ⟨hc35, h⟩ := guardO h
  refine AOps_q 96 _ rfl rfl rfl (QOp_loadN_ptr _ _ _ _ _ _ _ rfl Tryz.isAgg120 Tryz.sizeOf120 rfl rfl (ints_all _ hc35) (by rw [intsD_length]; exact hc35)) ?_
  refine kM 1 rfl ?_
  obtain ⟨hc36, h⟩ := guardO h
  refine AOps_mapUpdate keyed120_Tryz Tryz.underlying71 Tryz.underlying2 0 _ s34.2 (MK.l (splicedL ([0, 0, 0, 0] : List Int) 0 4 p0)) _ s34.1 _ _ _ rfl rfl rfl rfl rfl rfl (isKey_l _) (key120_Tryz hc36.1) rfl hc36.2.1 hc36.2.2 ?_
  refine AOps_nil ?_
  refine kR ?_
  refine kN 2 rfl ?_
  refine ACode_ret ?_
  cases h
  exact ⟨_, _, fun r a w h => ⟨r, h⟩, _, _, [], _, (.cons (ResV_tmp _ _ rfl) .nil), rfl, rfl, rfl, rfl, rfl⟩

end Go.Proofs.YtghhnpdhehjlaaaGreat
