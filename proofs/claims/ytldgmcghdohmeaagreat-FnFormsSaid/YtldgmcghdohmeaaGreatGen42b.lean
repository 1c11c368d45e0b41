/- Plain functions of the program and that the program computes them: printed by the own tool gen.py. No conditions. -/
import Derived.Test.YtldgmcghdohmeaaGreatGen42a
set_option linter.unusedVariables false
set_option linter.unusedSimpArgs false
set_option maxRecDepth 100000
namespace Go.Proofs.YtldgmcghdohmeaaGreat
open Go Go.RowKit Ab

def impl_Colouring_put (p0 : Col) (p1 : Int) (p2 : Int) (p3 : Int) : Option (Col) :=
 (if 0 ≤ (impl_number p1 p2) ∧ (impl_number p1 p2) < 136 then some (p0.set ((impl_number p1 p2).toNat) (toByte p3)) else none)
theorem impl_Colouring_put_ac (p0 : Col) (p1 : Int) (p2 : Int) (p3 : Int) (r : Col) (h : impl_Colouring_put p0 p1 p2 p3 = some r) : AC Tryz.prog 66 [.ptr 0 0, iV p1, iV p2, iV p3] [.box (colD p0)] (fun res H' => res = [] ∧ H' = [.box (colD r)]) := by
 refine AC_of_body true Tryz.func66 rfl Tryz.ntmps66 (rvs := []) rfl rfl (fun G hG => ?_)
 have hm : G.H.length = 1 := by rw [hG]; rfl
 have hz : zeroG G.H = true := by rw [hG]; rfl
 unfold impl_Colouring_put at h
 refine (ACode_last (l := [_, _, _, _, _, _, _, _, _]) mixed (by kernel_rfl) (by kernel_rfl) ?_)
 refine kQ 3 rfl ?_
 refine AQ_call 11 _ _ _ _ _ _ _ _ _ rfl rfl rfl rfl rfl rfl rfl Tryz.call82 rfl rfl rfl (impl_number_ac p1 p2) ?_
 refine kQ 1 rfl ?_
 refine AQ_q 13 _ rfl rfl rfl (QOp_toByte _ _ _ _ _ rfl rfl Tryz.underlying5 rfl) ?_
 refine AQ_q 14 _ rfl rfl rfl (QOp_nilCheck_ptr _ _ _ _ rfl rfl rfl rfl) ?_
 refine AQ_q 15 _ rfl rfl rfl (QOp_fieldAddr_ptr _ _ _ _ _ _ 2 _ _ rfl Tryz.underlying26 rfl _ Tryz.sizeOf24 rfl rfl rfl rfl) ?_
 obtain ⟨hc2, h⟩ := guardO h
 refine AQ_q 16 _ rfl rfl rfl (QOp_indexAddrA_ptr _ _ _ _ _ _ _ _ _ _ rfl Tryz.underlying24 Tryz.sizeOf5 hc2.1 hc2.2 rfl rfl rfl rfl) ?_
 refine AQ_nil ?_
 refine AOps_store1 _ _ _ _ _ _ (colD (p0.set ((impl_number p1 p2).toNat) (toByte p3))) _ rfl rfl rfl rfl rfl rfl rfl Tryz.sizeOf5 (by rw [colD_length]; omega) (colD_setE p0 ((impl_number p1 p2).toNat) (toByte p3)) ?_
 refine AOps_nil ?_
 cases h
 exact ⟨_, _, fun r a w h => ⟨r, h⟩, _, _, [], _, .nil, rfl, rfl, rfl, rfl, rfl⟩

def impl_Colouring_renumbered_l1 (p0 : Col) (p1 : List Int) (x1 : Int) : Nat → Int → Col → Option (Col)
 | 0, _, _ => none
 | k1 + 1, x4, x5 => (if decide (x4 < x1) then (if 0 ≤ x4 ∧ x4 < (p1.length : Int) then (if 0 ≤ x1 ∧ x1 < (p1.length : Int) then (impl_Colouring_at p0 x4 x1).bind fun r9 => (impl_Colouring_put x5 (p1.getD x4.toNat 0) (p1.getD x1.toNat 0) r9).bind fun r10 => impl_Colouring_renumbered_l1 p0 p1 x1 k1 (w64 (x4 + 1)) r10 else none) else none) else some x5)
def impl_Colouring_renumbered_l0 (k : Nat) (p0 : Col) (p1 : List Int) : Nat → Int → Col → Option (Col)
 | 0, _, _ => none
 | k0 + 1, x1, x2 => (if decide (x1 < p0.p) then (impl_Colouring_renumbered_l1 p0 p1 x1 k 0 x2 : Option (Col)).bind fun s11 => impl_Colouring_renumbered_l0 k p0 p1 k0 (w64 (x1 + 1)) s11 else some x2)
def impl_Colouring_renumbered (k : Nat) (p0 : Col) (p1 : List Int) : Option (Col) :=
 (impl_Colouring_renumbered_l0 k p0 p1 k 0 (⟨p0.p, p0.k, B136.zero⟩ : Col) : Option (Col)).bind fun s12 => some s12
theorem impl_Colouring_renumbered_ac (k : Nat) (p0 : Col) (p1 : List Int) (r : Col) (h : impl_Colouring_renumbered k p0 p1 = some r) : AC Tryz.prog 30 [.d (.pv (colD p0) 0), .d (.sl none (intsD p1))] [] (fun res H' => res = [.d (.agg (colD r))] ∧ H' = []) := by
 refine AC_of_body true Tryz.func30 rfl Tryz.ntmps30 (rvs := [.cell 4 26]) rfl rfl (fun G hG => ?_)
 have hm : G.H.length = 0 := by rw [hG]; rfl
 have hz : zeroG G.H = true := by rw [hG]; rfl
 unfold impl_Colouring_renumbered at h
 refine kR ?_
 refine AOps_alloc 4 _ _ (colD Col.zero) (zero_of Tryz.typeInfo26 rfl) (by rfl) rfl rfl rfl rfl ?_
 refine AOps_nil ?_
 refine ACode_seqJ (fun E' H' => Weak 44 G E' H' [(0, .d (.pv (colD p0) 0)), (1, .d (.sl none (intsD p1))), (4, .ptr 0 0), (5, .ptr 1 0)] [.box (colD Col.zero), .box (colD (⟨p0.p, p0.k, B136.zero⟩ : Col))]) ?_ ?_
 ·refine ACode_anyLast (l := [_, _, _, _, _, _, _, _, _, _]) mixed (by kernel_rfl) ?_
  refine AAny_q 0 8 _ rfl (by kernel_rfl) rfl rfl rfl (QOp_move _ _ rfl rfl) ?_
  refine AAny_q 1 9 _ rfl (by kernel_rfl) rfl rfl rfl (QOp_nilCheck_pv _ _ _ rfl rfl) ?_
  refine AAny_q 2 10 _ rfl (by kernel_rfl) rfl rfl rfl (QOp_fieldAddr_pv _ _ _ _ _ 0 _ _ rfl Tryz.underlying26 rfl _ Tryz.sizeOf2 rfl rfl) ?_
  refine AAny_q 3 11 _ rfl (by kernel_rfl) rfl rfl rfl (QOp_load_pv _ _ _ _ _ rfl Tryz.isAgg2 rfl rfl) ?_
  refine AAny_q 4 12 _ rfl (by kernel_rfl) rfl rfl rfl (QOp_move _ _ rfl rfl) ?_
  refine AAny_q 5 13 _ rfl (by kernel_rfl) rfl rfl rfl (QOp_nilCheck_pv _ _ _ rfl rfl) ?_
  refine AAny_q 6 14 _ rfl (by kernel_rfl) rfl rfl rfl (QOp_fieldAddr_pv _ _ _ _ _ 1 _ _ rfl Tryz.underlying26 rfl _ Tryz.sizeOf2 rfl rfl) ?_
  refine AAny_q 7 15 _ rfl (by kernel_rfl) rfl rfl rfl (QOp_load_pv _ _ _ _ _ rfl Tryz.isAgg2 rfl rfl) ?_
  refine AAny_q 8 16 _ rfl (by kernel_rfl) rfl rfl rfl (QOp_build _ _ [_, _] [0, 1] [iD p0.p, iD p0.k] _ (colD Col.zero) (colD (⟨p0.p, p0.k, B136.zero⟩ : Col)) [(0, 1), (1, 1), (2, 136)] rfl rfl Tryz.underlying26 (zero_of Tryz.typeInfo26 rfl) (fun w => by simp [Tryz.sizeOf2, Tryz.sizeOf2, Tryz.sizeOf24]) rfl (by rfl) (by rfl) (allc (ok1 rfl) (allc (ok1 rfl) (fun _ h => nomatch h)))) ?_
  refine AAny_all [9] (by kernel_rfl) rfl (allc ?_ (fun _ h => nomatch h))
  refine AStep_of 9 rfl rfl (Bl_alloc _ _ (zero_of Tryz.typeInfo26 rfl) rfl) ?_
  refine AOps_alloc 5 _ _ (colD Col.zero) (zero_of Tryz.typeInfo26 rfl) (by rfl) rfl rfl rfl rfl ?_
  refine AOps_nil ?_
  refine AAny_done (by kernel_rfl) ?_
  refine AOps_store _ _ _ _ _ _ (colD _) _ _ rfl rfl rfl rfl rfl rfl rfl (colD_one _) (by rw [colD_length]; exact Tryz.sizeOf26) (by rw [colD_length, colD_length]; decide) (colD_whole _ _) ?_
  refine AOps_nil ?_
  exact Weak_keep 0 hm [0, 1, 4, 5] [0, 1] _ _ rfl rfl rfl
 intro E' H' hw
 refine ACode_weak hw ?_
 refine kB (fun s12 => [(4, .ptr 0 0), (5, .ptr 1 0)]) (fun s12 => [.box (colD Col.zero), .box (colD s12)]) h (fun s12 h => ?_) (fun s12 h => ?_)
 ·refine kR ?_
  refine kM 1 rfl ?_
  refine AOps_q 18 _ rfl rfl rfl (QOp_nilCheck_pv _ _ _ rfl rfl) ?_
  refine AOps_q 19 _ rfl rfl rfl (QOp_fieldAddr_pv _ _ _ _ _ 0 _ _ rfl Tryz.underlying26 rfl _ Tryz.sizeOf2 rfl rfl) ?_
  refine AOps_q 20 _ rfl rfl rfl (QOp_load_pv _ _ _ _ _ rfl Tryz.isAgg2 rfl rfl) ?_
  refine kN 1 rfl ?_
  refine ACode_block ?_
  refine ACode_loopW (fun k0 E H => ∃ (x1 : Int) (x2 : Col), E = [(0, .d (.pv (colD p0) 0)), (1, .d (.sl none (intsD p1))), (4, .ptr 0 0), (5, .ptr 1 0), (20, iV p0.p), (21, iV x1)] ∧ H = [.box (colD Col.zero), .box (colD x2)] ∧ impl_Colouring_renumbered_l0 k p0 p1 k0 x1 x2 = some s12) k _ _ (Weak_keep 0 hm [0, 1, 4, 5, 20, 21] [0, 1] _ _ rfl rfl rfl) ⟨_, _, rfl, rfl, h⟩ ?_
  clear h
  rintro k0 E H ⟨x1, x2, rfl, rfl, h⟩
  cases k0 with
  | zero => cases (show (none : Option (Col)) = some _ from h)
  | succ k0 =>
   rw [impl_Colouring_renumbered_l0] at h
   refine kR ?_
   refine AOps_q 22 _ rfl rfl rfl (QOp_lss _ _ _ _ _ _ _ rfl rfl rfl) ?_
   refine AOps_nil ?_
   refine ACode_seq ?_
   refine kI h rfl (fun h _ => ?_) (fun h _ => ?_)
   ·refine ACode_skip ?_
    refine kB (fun s11 => [(0, .d (.pv (colD p0) 0)), (1, .d (.sl none (intsD p1))), (4, .ptr 0 0), (5, .ptr 1 0), (20, iV p0.p), (21, iV x1)]) (fun s11 => [.box (colD Col.zero), .box (colD s11)]) h (fun s11 h => ?_) (fun s11 h => ?_)
    ·refine ACode_block ?_
     refine kR ?_
     refine kN 2 rfl ?_
     refine kR ?_
     refine kN 2 rfl ?_
     refine ACode_block ?_
     refine ACode_loopW (fun k1 E H => ∃ (x4 : Int) (x5 : Col), E = [(0, .d (.pv (colD p0) 0)), (1, .d (.sl none (intsD p1))), (4, .ptr 0 0), (5, .ptr 1 0), (6, iV x1), (20, iV p0.p), (21, iV x1), (24, iV x1), (25, iV x4)] ∧ H = [.box (colD Col.zero), .box (colD x5)] ∧ impl_Colouring_renumbered_l1 p0 p1 x1 k1 x4 x5 = some s11) k _ _ (Weak_keep 0 hm [0, 1, 4, 5, 6, 20, 21, 24, 25] [0, 1] _ _ rfl rfl rfl) ⟨_, _, rfl, rfl, h⟩ ?_
     clear h
     rintro k1 E H ⟨x4, x5, rfl, rfl, h⟩
     cases k1 with
     | zero => cases (show (none : Option (Col)) = some _ from h)
     | succ k1 =>
      rw [impl_Colouring_renumbered_l1] at h
      refine kR ?_
      refine AOps_q 26 _ rfl rfl rfl (QOp_lss _ _ _ _ _ _ _ rfl rfl rfl) ?_
      refine AOps_nil ?_
      refine ACode_seq ?_
      refine kI h rfl (fun h _ => ?_) (fun h _ => ?_)
      ·refine ACode_skip ?_
       refine ACode_seq ?_
       refine ACode_block ?_
       refine kR ?_
       refine kN 2 rfl ?_
       refine (ACode_last (l := [_, _, _, _, _, _, _, _, _, _, _, _]) mixed (by kernel_rfl) (by kernel_rfl) ?_)
       refine kQ 2 rfl ?_
       obtain ⟨hc7, h⟩ := guardO h
       refine AQ_q 30 _ rfl rfl rfl (QOp_indexAddr_sl _ _ _ _ _ _ _ _ rfl Tryz.underlying40 Tryz.sizeOf2 hc7.1 (by rw [intsD_length]; exact hc7.2) rfl rfl) ?_
       refine AQ_q 31 _ rfl rfl rfl (QOp_load_pv _ _ _ _ _ rfl Tryz.isAgg2 rfl (intsD_get _ _ 0 (by omega))) ?_
       refine kQ 2 rfl ?_
       obtain ⟨hc8, h⟩ := guardO h
       refine AQ_q 34 _ rfl rfl rfl (QOp_indexAddr_sl _ _ _ _ _ _ _ _ rfl Tryz.underlying40 Tryz.sizeOf2 hc8.1 (by rw [intsD_length]; exact hc8.2) rfl rfl) ?_
       refine AQ_q 35 _ rfl rfl rfl (QOp_load_pv _ _ _ _ _ rfl Tryz.isAgg2 rfl (intsD_get _ _ 0 (by omega))) ?_
       refine kQ 3 rfl ?_
       obtain ⟨r9, hr9, h⟩ := bindO h
       refine AQ_call 39 _ _ _ _ _ _ _ _ _ rfl rfl rfl rfl rfl rfl rfl Tryz.call67 rfl rfl rfl (impl_Colouring_at_ac p0 x4 x1 _ hr9) ?_
       refine AQ_nil ?_
       obtain ⟨r10, hr10, h⟩ := bindO h
       refine kC [1] 40 (.tup []) [.box (colD Col.zero), .box (colD r10)] rfl Tryz.call66 rfl rfl (impl_Colouring_put_ac x5 (p1.getD x4.toNat 0) (p1.getD x1.toNat 0) r9 _ hr10) rfl ?_
       refine AOps_nil ?_
       refine (ACode_region ?_)
       refine AOps_q 41 _ rfl rfl rfl (QOp_add _ _ _ _ _ _ _ rfl rfl rfl) ?_
       refine kN 1 rfl ?_
       exact ⟨k1, _, _, Nat.lt_succ_self _, Weak_keep 0 hm [0, 1, 4, 5, 6, 20, 21, 24, 25] [0, 1] _ _ rfl rfl rfl, _, _, rfl, rfl, h⟩
      refine ACode_exit ?_
      cases h
      exact Weak_keep 0 hm [0, 1, 4, 5, 20, 21] [0, 1] _ _ rfl rfl rfl
    refine (ACode_region ?_)
    refine AOps_q 42 _ rfl rfl rfl (QOp_add _ _ _ _ _ _ _ rfl rfl rfl) ?_
    refine kN 1 rfl ?_
    exact ⟨k0, _, _, Nat.lt_succ_self _, Weak_keep 0 hm [0, 1, 4, 5, 20, 21] [0, 1] _ _ rfl rfl rfl, _, _, rfl, rfl, h⟩
   refine ACode_exit ?_
   cases h
   exact Weak_keep 0 hm [4, 5] [0, 1] _ _ rfl rfl rfl
 refine kR ?_
 refine AOps_q 43 _ rfl rfl rfl (QOp_loadN_ptr _ _ _ _ _ _ _ rfl Tryz.isAgg26 Tryz.sizeOf26 rfl rfl (colD_all _) (colD_length _)) ?_
 refine AOps_store _ _ _ _ _ _ (colD _) _ _ rfl rfl rfl rfl rfl rfl rfl (colD_one _) (by rw [colD_length]; exact Tryz.sizeOf26) (by rw [colD_length, colD_length]; decide) (colD_whole _ _) ?_
 refine AOps_nil ?_
 refine ACode_ret ?_
 cases h
 exact ⟨_, _, fun r a w h => ⟨r, h⟩, _, _, [], _, (.cons (ResV_agg _ _ _ _ _ _ Tryz.isAgg26 Tryz.sizeOf26 rfl rfl (colD_take _) (colD_length _)) .nil), rfl, rfl, rfl, rfl, rfl⟩

def cmp_isNaN_byte (p0 : UInt8) : Bool :=
 !decide ((p0.toNat : Int) = (p0.toNat : Int))
theorem cmp_isNaN_byte_ac (p0 : UInt8) : AC Tryz.prog 90 [.d (uD p0)] [] (fun res H' => res = [bV (cmp_isNaN_byte p0)] ∧ H' = []) := by
 refine AC_of_body true Tryz.func90 rfl Tryz.ntmps90 (rvs := [.tmp 2]) rfl rfl (fun G hG => ?_)
 have hm : G.H.length = 0 := by rw [hG]; rfl
 have hz : zeroG G.H = true := by rw [hG]; rfl
 obtain ⟨r, h⟩ : ∃ r, cmp_isNaN_byte p0 = r := ⟨_, rfl⟩
 rw [h]
 unfold cmp_isNaN_byte at h
 refine kR ?_
 refine kN 1 rfl ?_
 refine kR ?_
 refine kM 2 rfl ?_
 refine AOps_q 5 _ rfl rfl rfl (QOp_neq _ _ _ _ _ _ _ rfl rfl rfl) ?_
 refine kN 1 rfl ?_
 refine ACode_ret ?_
 cases h
 exact ⟨_, _, fun r a w h => ⟨r, h⟩, _, _, [], _, (.cons (ResV_tmp _ _ rfl) .nil), rfl, rfl, rfl, rfl, rfl⟩

def cmp_Compare_byte (p0 : UInt8) (p1 : UInt8) : Int :=
 (if (cmp_isNaN_byte p0) then (if (cmp_isNaN_byte p1) then 0 else (-1)) else (if (cmp_isNaN_byte p1) then 1 else (if decide ((p0.toNat : Int) < (p1.toNat : Int)) then (-1) else (if decide ((p1.toNat : Int) < (p0.toNat : Int)) then 1 else 0))))
theorem cmp_Compare_byte_ac (p0 : UInt8) (p1 : UInt8) : AC Tryz.prog 68 [.d (uD p0), .d (uD p1)] [] (fun res H' => res = [iV (cmp_Compare_byte p0 p1)] ∧ H' = []) := by
 refine AC_of_body true Tryz.func68 rfl Tryz.ntmps68 (rvs := [.tmp 4]) rfl rfl (fun G hG => ?_)
 have hm : G.H.length = 0 := by rw [hG]; rfl
 have hz : zeroG G.H = true := by rw [hG]; rfl
 obtain ⟨r, h⟩ : ∃ r, cmp_Compare_byte p0 p1 = r := ⟨_, rfl⟩
 rw [h]
 unfold cmp_Compare_byte at h
 refine kR ?_
 refine kN 1 rfl ?_
 refine kR ?_
 refine kM 1 rfl ?_
 refine kC [] 8 (bV (cmp_isNaN_byte p0)) [] rfl Tryz.call90 rfl rfl (cmp_isNaN_byte_ac p0) rfl ?_
 refine kN 1 rfl ?_
 refine kR ?_
 refine kM 1 rfl ?_
 refine kC [] 10 (bV (cmp_isNaN_byte p1)) [] rfl Tryz.call90 rfl rfl (cmp_isNaN_byte_ac p1) rfl ?_
 refine kN 1 rfl ?_
 refine ACode_seq ?_
 refine kR ?_
 refine kN 1 rfl ?_
 refine kI h rfl (fun h _ => ?_) (fun h _ => ?_)
 ·refine ACode_seq ?_
  refine kR ?_
  refine kN 1 rfl ?_
  refine kI h rfl (fun h _ => ?_) (fun h _ => ?_)
  ·refine kR ?_
   refine kN 1 rfl ?_
   refine ACode_ret ?_
   cases h
   exact ⟨_, _, fun r a w h => ⟨r, h⟩, _, _, [], _, (.cons (ResV_tmp _ _ rfl) .nil), rfl, rfl, rfl, rfl, rfl⟩
  refine ACode_skip ?_
  refine kR ?_
  refine kN 1 rfl ?_
  refine ACode_ret ?_
  cases h
  exact ⟨_, _, fun r a w h => ⟨r, h⟩, _, _, [], _, (.cons (ResV_tmp _ _ rfl) .nil), rfl, rfl, rfl, rfl, rfl⟩
 refine ACode_skip ?_
 refine ACode_seq ?_
 refine kR ?_
 refine kN 1 rfl ?_
 refine kI h rfl (fun h _ => ?_) (fun h _ => ?_)
 ·refine kR ?_
  refine kN 1 rfl ?_
  refine ACode_ret ?_
  cases h
  exact ⟨_, _, fun r a w h => ⟨r, h⟩, _, _, [], _, (.cons (ResV_tmp _ _ rfl) .nil), rfl, rfl, rfl, rfl, rfl⟩
 refine ACode_skip ?_
 refine ACode_seq ?_
 refine kR ?_
 refine kM 2 rfl ?_
 refine AOps_q 16 _ rfl rfl rfl (QOp_lss _ _ _ _ _ _ _ rfl rfl rfl) ?_
 refine AOps_nil ?_
 refine kI h rfl (fun h _ => ?_) (fun h _ => ?_)
 ·refine kR ?_
  refine kN 1 rfl ?_
  refine ACode_ret ?_
  cases h
  exact ⟨_, _, fun r a w h => ⟨r, h⟩, _, _, [], _, (.cons (ResV_tmp _ _ rfl) .nil), rfl, rfl, rfl, rfl, rfl⟩
 refine ACode_skip ?_
 refine ACode_seq ?_
 refine kR ?_
 refine kM 2 rfl ?_
 refine AOps_q 19 _ rfl rfl rfl (QOp_gtr _ _ _ _ _ _ _ rfl rfl rfl) ?_
 refine AOps_nil ?_
 refine kI h rfl (fun h _ => ?_) (fun h _ => ?_)
 ·refine kR ?_
  refine kN 1 rfl ?_
  refine ACode_ret ?_
  cases h
  exact ⟨_, _, fun r a w h => ⟨r, h⟩, _, _, [], _, (.cons (ResV_tmp _ _ rfl) .nil), rfl, rfl, rfl, rfl, rfl⟩
 refine ACode_skip ?_
 refine kR ?_
 refine kN 1 rfl ?_
 refine ACode_ret ?_
 cases h
 exact ⟨_, _, fun r a w h => ⟨r, h⟩, _, _, [], _, (.cons (ResV_tmp _ _ rfl) .nil), rfl, rfl, rfl, rfl, rfl⟩

def slices_Compare___byte_byte_l0 (p0 : List UInt8) (p1 : List UInt8) : Nat → Int → Option (Sum (Unit) (Int))
 | 0, _ => none
 | k0 + 1, x1 => (if decide (x1 < (p0.length : Int)) then (if 0 ≤ x1 ∧ x1 < (p0.length : Int) then (if decide ((p1.length : Int) ≤ x1) then some (.inr 1) else (if 0 ≤ x1 ∧ x1 < (p1.length : Int) then (if !decide ((cmp_Compare_byte (p0.getD x1.toNat 0) (p1.getD x1.toNat 0)) = 0) then some (.inr (cmp_Compare_byte (p0.getD x1.toNat 0) (p1.getD x1.toNat 0))) else slices_Compare___byte_byte_l0 p0 p1 k0 (w64 (x1 + 1))) else none)) else none) else some (.inl ()))
def slices_Compare___byte_byte (k : Nat) (p0 : List UInt8) (p1 : List UInt8) : Option (Int) :=
 (slices_Compare___byte_byte_l0 p0 p1 k 0 : Option (Sum (Unit) (Int))).bind fun os8 => (match os8 with | .inl s8 => (if decide ((p0.length : Int) < (p1.length : Int)) then some (-1) else some 0) | .inr rr => some rr)
theorem slices_Compare___byte_byte_ac (k : Nat) (p0 : List UInt8) (p1 : List UInt8) (r : Int) (h : slices_Compare___byte_byte k p0 p1 = some r) : AC Tryz.prog 31 [.d (.sl none (bysD p0)), .d (.sl none (bysD p1))] [] (fun res H' => res = [iV r] ∧ H' = []) := by
 refine AC_of_body true Tryz.func31 rfl Tryz.ntmps31 (rvs := [.tmp 4]) rfl rfl (fun G hG => ?_)
 have hm : G.H.length = 0 := by rw [hG]; rfl
 have hz : zeroG G.H = true := by rw [hG]; rfl
 unfold slices_Compare___byte_byte at h
 refine kR ?_
 refine kN 1 rfl ?_
 refine kO (fun s8 => [(0, .d (.sl none (bysD p0))), (1, .d (.sl none (bysD p1)))]) (fun s8 => []) h (fun os8 h hks8 => ?_) (fun s8 h => ?_)
 ·refine kR ?_
  refine kM 1 rfl ?_
  refine AOps_q 10 _ rfl rfl rfl (QOp_len_sl _ _ _ _ _ _ _ (bysD_length _) rfl rfl rfl rfl Tryz.underlying22 rfl) ?_
  refine kN 1 rfl ?_
  refine ACode_block ?_
  refine ACode_loopW (fun k0 E H => ∃ (x1 : Int), E = [(0, .d (.sl none (bysD p0))), (1, .d (.sl none (bysD p1))), (9, .d (.sl none (bysD p0))), (10, iV (p0.length : Int)), (11, iV x1)] ∧ H = [] ∧ slices_Compare___byte_byte_l0 p0 p1 k0 x1 = some os8) k _ _ (Weak_keep 0 hm [0, 1, 9, 10, 11] [] _ _ rfl rfl rfl) ⟨_, rfl, rfl, h⟩ ?_
  clear h
  rintro k0 E H ⟨x1, rfl, rfl, h⟩
  cases k0 with
  | zero => cases (show (none : Option (Sum (Unit) (Int))) = some _ from h)
  | succ k0 =>
   rw [slices_Compare___byte_byte_l0] at h
   refine kR ?_
   refine AOps_q 12 _ rfl rfl rfl (QOp_lss _ _ _ _ _ _ _ rfl rfl rfl) ?_
   refine AOps_nil ?_
   refine ACode_seq ?_
   refine kI h rfl (fun h _ => ?_) (fun h _ => ?_)
   ·refine ACode_skip ?_
    refine ACode_seq ?_
    refine ACode_block ?_
    refine kR ?_
    refine kM 1 rfl ?_
    obtain ⟨hc3, h⟩ := guardO h
    refine AOps_q 14 _ rfl rfl rfl (QOp_indexAddr_sl _ _ _ _ _ _ _ _ rfl Tryz.underlying22 Tryz.sizeOf5 hc3.1 (by rw [bysD_length]; exact hc3.2) rfl rfl) ?_
    refine AOps_q 15 _ rfl rfl rfl (QOp_load_pv _ _ _ _ _ rfl Tryz.isAgg5 rfl (bysD_get _ _ 0 (by omega))) ?_
    refine kN 2 rfl ?_
    refine ACode_seq ?_
    refine kR ?_
    refine kM 2 rfl ?_
    refine AOps_q 18 _ rfl rfl rfl (QOp_len_sl _ _ _ _ _ _ _ (bysD_length _) rfl rfl rfl rfl Tryz.underlying22 rfl) ?_
    refine AOps_q 19 _ rfl rfl rfl (QOp_geq _ _ _ _ _ _ _ rfl rfl rfl) ?_
    refine AOps_nil ?_
    refine kI h rfl (fun h _ => ?_) (fun h _ => ?_)
    ·refine kR ?_
     refine kN 1 rfl ?_
     refine ACode_ret ?_
     cases h
     have h := hks8
     cases h
     exact ⟨_, _, fun r a w h => ⟨r, h⟩, _, _, [], _, (.cons (ResV_tmp _ _ rfl) .nil), rfl, rfl, rfl, rfl, rfl⟩
    refine ACode_skip ?_
    refine kR ?_
    refine kM 2 rfl ?_
    obtain ⟨hc5, h⟩ := guardO h
    refine AOps_q 22 _ rfl rfl rfl (QOp_indexAddr_sl _ _ _ _ _ _ _ _ rfl Tryz.underlying22 Tryz.sizeOf5 hc5.1 (by rw [bysD_length]; exact hc5.2) rfl rfl) ?_
    refine AOps_q 23 _ rfl rfl rfl (QOp_load_pv _ _ _ _ _ rfl Tryz.isAgg5 rfl (bysD_get _ _ 0 (by omega))) ?_
    refine kN 1 rfl ?_
    refine kR ?_
    refine kM 2 rfl ?_
    refine kC [] 26 (iV (cmp_Compare_byte (p0.getD x1.toNat 0) (p1.getD x1.toNat 0))) [] rfl Tryz.call68 rfl rfl (cmp_Compare_byte_ac (p0.getD x1.toNat 0) (p1.getD x1.toNat 0)) rfl ?_
    refine kN 1 rfl ?_
    refine kR ?_
    refine kM 1 rfl ?_
    refine AOps_q 28 _ rfl rfl rfl (QOp_neq _ _ _ _ _ _ _ rfl rfl rfl) ?_
    refine AOps_nil ?_
    refine kI h rfl (fun h _ => ?_) (fun h _ => ?_)
    ·refine kR ?_
     refine kN 2 rfl ?_
     refine ACode_ret ?_
     cases h
     have h := hks8
     cases h
     exact ⟨_, _, fun r a w h => ⟨r, h⟩, _, _, [], _, (.cons (ResV_tmp _ _ rfl) .nil), rfl, rfl, rfl, rfl, rfl⟩
    refine ACode_skip ?_
    refine (ACode_region ?_)
    refine AOps_q 30 _ rfl rfl rfl (QOp_add _ _ _ _ _ _ _ rfl rfl rfl) ?_
    refine kN 1 rfl ?_
    exact ⟨k0, _, _, Nat.lt_succ_self _, Weak_keep 0 hm [0, 1, 9, 10, 11] [] _ _ rfl rfl rfl, _, rfl, rfl, h⟩
   refine ACode_exit ?_
   cases h
   exact ⟨_, rfl, Weak_keep 0 hm [0, 1] [] _ _ rfl rfl rfl⟩
 refine ACode_seq ?_
 refine kR ?_
 refine kM 1 rfl ?_
 refine AOps_q 32 _ rfl rfl rfl (QOp_len_sl _ _ _ _ _ _ _ (bysD_length _) rfl rfl rfl rfl Tryz.underlying22 rfl) ?_
 refine kM 1 rfl ?_
 refine AOps_q 34 _ rfl rfl rfl (QOp_len_sl _ _ _ _ _ _ _ (bysD_length _) rfl rfl rfl rfl Tryz.underlying22 rfl) ?_
 refine AOps_q 35 _ rfl rfl rfl (QOp_lss _ _ _ _ _ _ _ rfl rfl rfl) ?_
 refine AOps_nil ?_
 refine kI h rfl (fun h _ => ?_) (fun h _ => ?_)
 ·refine kR ?_
  refine kN 1 rfl ?_
  refine ACode_ret ?_
  cases h
  exact ⟨_, _, fun r a w h => ⟨r, h⟩, _, _, [], _, (.cons (ResV_tmp _ _ rfl) .nil), rfl, rfl, rfl, rfl, rfl⟩
 refine ACode_skip ?_
 refine kR ?_
 refine kN 1 rfl ?_
 refine ACode_ret ?_
 cases h
 exact ⟨_, _, fun r a w h => ⟨r, h⟩, _, _, [], _, (.cons (ResV_tmp _ _ rfl) .nil), rfl, rfl, rfl, rfl, rfl⟩

def impl_LeastForm_l0 (k : Nat) (p0 : Col) (r7 : List (List Int)) : Nat → Int → Col → Option (Col)
 | 0, _, _ => none
 | k0 + 1, x8, x9 => (if decide (x8 < (r7.length : Int)) then ((if 0 ≤ x8 ∧ x8 < (r7.length : Int) then (impl_Colouring_renumbered k p0 (r7.getD x8.toNat [])).bind fun r12 => (slices_Compare___byte_byte k r12.e.l x9.e.l).bind fun r13 => (if decide (r13 < 0) then some r12 else some x9) else none) : Option (Col)).bind fun s15 => impl_LeastForm_l0 k p0 r7 k0 (w64 (x8 + 1)) s15 else some x9)
def impl_LeastForm (k : Nat) (p0 : Col) : Option (Col × Int) :=
 (impl_Colouring_code k p0 (some (impl_always))).bind fun r1 => letO (letO (if decide (r1 = 0) then decide (6 < p0.p) else false) fun (s3 : Bool) => (if s3 then 3 else r1)) fun (s5 : Int) => (if !decide (s5 = 0) then some ((⟨0, 0, B136.zero⟩ : Col), s5) else ((impl_orders k p0.p ([])).bind fun r7 => impl_LeastForm_l0 k p0 r7 k 0 p0 : Option (Col)).bind fun s16 => some (s16, 0))
theorem impl_LeastForm_ac (k : Nat) (p0 : Col) (r : Col × Int) (h : impl_LeastForm k p0 = some r) : AC Tryz.prog 6 [.d (.agg (colD p0))] [] (fun res H' => res = [.d (.agg (colD r.1)), iV r.2] ∧ H' = []) := by
 refine AC_of_body true Tryz.func6 rfl Tryz.ntmps6 (rvs := [.cell 2 26, .tmp 3]) rfl rfl (fun G hG => ?_)
 have hm : G.H.length = 0 := by rw [hG]; rfl
 have hz : zeroG G.H = true := by rw [hG]; rfl
 unfold impl_LeastForm at h
 refine kR ?_
 refine AOps_boxI 1 _ _ (.agg (colD p0)) (colD p0) rfl (colD_one _) rfl rfl rfl rfl rfl ?_
 refine AOps_alloc 2 _ _ (colD Col.zero) (zero_of Tryz.typeInfo26 rfl) (by rfl) rfl rfl rfl rfl ?_
 refine kN 1 rfl ?_
 refine kR ?_
 obtain ⟨r1, hr1, h⟩ := bindO h
 refine kC [] 9 (iV r1) [.box (colD Col.zero)] rfl Tryz.call27 rfl rfl (impl_Colouring_code_ac k p0 (some (impl_always)) 28 ([]) Tryz.call28 (fun r h => by cases h; exact impl_always_ac) _ hr1) rfl ?_
 refine kN 1 rfl ?_
 refine kL (fun s5 => [(1, .d (.pv (colD p0) 0)), (2, .ptr 0 0), (4, iV s5)]) (fun s5 => [.box (colD Col.zero)]) h (fun s5 h => ?_) (fun s5 h => ?_)
 ·refine kL (fun s3 => [(1, .d (.pv (colD p0) 0)), (2, .ptr 0 0), (4, iV r1), (16, bV s3)]) (fun s3 => [.box (colD Col.zero)]) h (fun s3 h => ?_) (fun s3 h => ?_)
  ·refine (ACode_region ?_)
   refine kM 1 rfl ?_
   refine AOps_q 11 _ rfl rfl rfl (QOp_eql _ _ _ _ _ _ _ rfl rfl rfl) ?_
   refine kM 1 rfl ?_
   refine AOps_case 12 _ rfl (fun hb2 => ?_) (fun hb2 => ?_)
   ·have h := iteT hb2 h
    refine AOps_q 13 _ rfl rfl rfl (QOp_fieldAddr_pv _ _ _ _ _ 0 _ _ rfl Tryz.underlying26 rfl _ Tryz.sizeOf2 rfl rfl) ?_
    refine AOps_q 14 _ rfl rfl rfl (QOp_load_pv _ _ _ _ _ rfl Tryz.isAgg2 rfl rfl) ?_
    refine AOps_q 15 _ rfl rfl rfl (QOp_gtr _ _ _ _ _ _ _ rfl rfl rfl) ?_
    refine kN 1 rfl ?_
    cases h
    exact Weak_keep 0 hm [1, 2, 4, 16] [0] _ _ rfl rfl rfl
   have h := iteF hb2 h
   refine AOps_skip 13 rfl rfl rfl ?_
   refine AOps_skip 14 rfl rfl rfl ?_
   refine AOps_skip 15 rfl rfl rfl ?_
   refine kN 1 rfl ?_
   cases h
   exact Weak_keep 0 hm [1, 2, 4, 16] [0] _ _ rfl rfl rfl
  refine kI h rfl (fun h _ => ?_) (fun h _ => ?_)
  ·refine (ACode_region ?_)
   refine kN 1 rfl ?_
   cases h
   exact Weak_keep 0 hm [1, 2, 4] [0] _ _ rfl rfl rfl
  refine ACode_skip ?_
  cases h
  exact Weak_keep 0 hm [1, 2, 4] [0] _ _ rfl rfl rfl
 refine ACode_seq ?_
 refine kR ?_
 refine kM 1 rfl ?_
 refine AOps_q 18 _ rfl rfl rfl (QOp_neq _ _ _ _ _ _ _ rfl rfl rfl) ?_
 refine AOps_nil ?_
 refine kI h rfl (fun h _ => ?_) (fun h _ => ?_)
 ·refine kR ?_
  refine AOps_q 19 _ rfl rfl rfl (QOp_build _ _ [] [] [] _ (colD Col.zero) (colD (⟨0, 0, B136.zero⟩ : Col)) [(0, 1), (1, 1), (2, 136)] rfl rfl Tryz.underlying26 (zero_of Tryz.typeInfo26 rfl) (fun w => by simp [Tryz.sizeOf2, Tryz.sizeOf2, Tryz.sizeOf24]) rfl (by rfl) (by rfl) (fun _ h => nomatch h)) ?_
  refine kM 1 rfl ?_
  refine AOps_store _ _ _ _ _ _ (colD _) _ _ rfl rfl rfl rfl rfl rfl rfl (colD_one _) (by rw [colD_length]; exact Tryz.sizeOf26) (by rw [colD_length, colD_length]; decide) (colD_whole _ _) ?_
  refine kN 1 rfl ?_
  refine ACode_ret ?_
  cases h
  exact ⟨_, _, fun r a w h => ⟨r, h⟩, _, _, [], _, (.cons (ResV_agg _ _ _ _ _ _ Tryz.isAgg26 Tryz.sizeOf26 rfl rfl (colD_take _) (colD_length _)) (.cons (ResV_tmp _ _ rfl) .nil)), rfl, rfl, rfl, rfl, rfl⟩
 refine ACode_skip ?_
 refine kR ?_
 refine AOps_q 21 _ rfl rfl rfl (QOp_loadN_pv _ _ _ _ _ _ rfl Tryz.isAgg26 Tryz.sizeOf26 rfl (colD_all _) (colD_length _)) ?_
 refine AOps_alloc 5 _ _ (colD Col.zero) (zero_of Tryz.typeInfo26 rfl) (by rfl) rfl rfl rfl rfl ?_
 refine AOps_store _ _ _ _ _ _ (colD _) _ _ rfl rfl rfl rfl rfl rfl rfl (colD_one _) (by rw [colD_length]; exact Tryz.sizeOf26) (by rw [colD_length, colD_length]; decide) (colD_whole _ _) ?_
 refine AOps_nil ?_
 refine kB (fun s16 => [(2, .ptr 0 0), (5, .ptr 1 0)]) (fun s16 => [.box (colD Col.zero), .box (colD s16)]) h (fun s16 h => ?_) (fun s16 h => ?_)
 ·refine kR ?_
  refine AOps_q 22 _ rfl rfl rfl (QOp_fieldAddr_pv _ _ _ _ _ 0 _ _ rfl Tryz.underlying26 rfl _ Tryz.sizeOf2 rfl rfl) ?_
  refine AOps_q 23 _ rfl rfl rfl (QOp_load_pv _ _ _ _ _ rfl Tryz.isAgg2 rfl rfl) ?_
  obtain ⟨r7, hr7, h⟩ := bindO h
  refine kC [] 24 (.d (.sl none (rowsD r7))) [.box (colD Col.zero), .box (colD p0)] rfl Tryz.call29 rfl rfl (impl_orders_ac k p0.p ([]) _ hr7) rfl ?_
  refine AOps_q 25 _ rfl rfl rfl (QOp_len_sl _ _ _ _ _ _ _ (rowsD_length _) rfl rfl rfl rfl Tryz.underlying30 rfl) ?_
  refine kN 1 rfl ?_
  refine ACode_block ?_
  refine ACode_loopW (fun k0 E H => ∃ (x8 : Int) (x9 : Col), E = [(1, .d (.pv (colD p0) 0)), (2, .ptr 0 0), (5, .ptr 1 0), (24, .d (.sl none (rowsD r7))), (25, iV (r7.length : Int)), (26, iV x8)] ∧ H = [.box (colD Col.zero), .box (colD x9)] ∧ impl_LeastForm_l0 k p0 r7 k0 x8 x9 = some s16) k _ _ (Weak_keep 0 hm [1, 2, 5, 24, 25, 26] [0, 1] _ _ rfl rfl rfl) ⟨_, _, rfl, rfl, h⟩ ?_
  clear h
  rintro k0 E H ⟨x8, x9, rfl, rfl, h⟩
  cases k0 with
  | zero => cases (show (none : Option (Col)) = some _ from h)
  | succ k0 =>
   rw [impl_LeastForm_l0] at h
   refine kR ?_
   refine AOps_q 27 _ rfl rfl rfl (QOp_lss _ _ _ _ _ _ _ rfl rfl rfl) ?_
   refine AOps_nil ?_
   refine ACode_seq ?_
   refine kI h rfl (fun h _ => ?_) (fun h _ => ?_)
   ·refine ACode_skip ?_
    refine kB (fun s15 => [(1, .d (.pv (colD p0) 0)), (2, .ptr 0 0), (5, .ptr 1 0), (24, .d (.sl none (rowsD r7))), (25, iV (r7.length : Int)), (26, iV x8)]) (fun s15 => [.box (colD Col.zero), .box (colD s15)]) h (fun s15 h => ?_) (fun s15 h => ?_)
    ·refine ACode_block ?_
     refine kR ?_
     obtain ⟨hc11, h⟩ := guardO h
     refine AOps_q 28 _ rfl rfl rfl (QOp_indexAddr_sl _ _ _ _ _ _ _ _ rfl Tryz.underlying30 Tryz.sizeOf40 hc11.1 (by rw [rowsD_length]; exact hc11.2) rfl rfl) ?_
     refine AOps_q 29 _ rfl rfl rfl (QOp_load_pv _ _ _ _ _ rfl Tryz.isAgg40 rfl (rowsD_get _ _ [] (by omega))) ?_
     refine kN 1 rfl ?_
     refine kR ?_
     refine kM 1 rfl ?_
     obtain ⟨r12, hr12, h⟩ := bindO h
     refine kC [] 31 (.d (.agg (colD r12))) [.box (colD Col.zero), .box (colD x9)] rfl Tryz.call30 rfl rfl (impl_Colouring_renumbered_ac k p0 (r7.getD x8.toNat []) _ hr12) rfl ?_
     refine AOps_alloc 8 _ _ (colD Col.zero) (zero_of Tryz.typeInfo26 rfl) (by rfl) rfl rfl rfl rfl ?_
     refine AOps_store _ _ _ _ _ _ (colD _) _ _ rfl rfl rfl rfl rfl rfl rfl (colD_one _) (by rw [colD_length]; exact Tryz.sizeOf26) (by rw [colD_length, colD_length]; decide) (colD_whole _ _) ?_
     refine AOps_nil ?_
     refine ACode_seq (ACode_quiet mixed (by kernel_rfl) ?_)
     refine AQ_q 32 _ rfl rfl rfl (QOp_fieldAddr_ptr _ _ _ _ _ _ 2 _ _ rfl Tryz.underlying26 rfl _ Tryz.sizeOf24 rfl rfl rfl rfl) ?_
     obtain ⟨r13, hr13, h⟩ := bindO h
     refine AQ_cmpArr 33 34 35 36 _ _ _ _ 24 _ _ 2 1 2 136 _ _ (bysD r12.e.l) (bysD x9.e.l) _ rfl rfl rfl rfl Tryz.underlying24 Tryz.sizeOf5 rfl rfl rfl rfl rfl (colD_cut _) (colD_cut _) (colD_cutl _) (colD_cutl _) rfl rfl rfl (QOp_fieldAddr_ptr _ _ _ _ _ _ 2 _ _ rfl Tryz.underlying26 rfl _ Tryz.sizeOf24 rfl rfl rfl rfl) rfl rfl rfl rfl rfl (by decide) (by decide) (by decide) rfl rfl rfl rfl rfl rfl rfl rfl Tryz.call31 (slices_Compare___byte_byte_ac k r12.e.l x9.e.l _ hr13) ?_
     refine AQ_q 37 _ rfl rfl rfl (QOp_lss _ _ _ _ _ _ _ rfl rfl rfl) ?_
     refine AQ_nil ?_
     refine kI h rfl (fun h _ => ?_) (fun h _ => ?_)
     ·refine (ACode_region ?_)
      refine AOps_q 38 _ rfl rfl rfl (QOp_loadN_ptr _ _ _ _ _ _ _ rfl Tryz.isAgg26 Tryz.sizeOf26 rfl rfl (colD_all _) (colD_length _)) ?_
      refine AOps_store _ _ _ _ _ _ (colD _) _ _ rfl rfl rfl rfl rfl rfl rfl (colD_one _) (by rw [colD_length]; exact Tryz.sizeOf26) (by rw [colD_length, colD_length]; decide) (colD_whole _ _) ?_
      refine AOps_nil ?_
      cases h
      exact Weak_keep 0 hm [1, 2, 5, 24, 25, 26] [0, 1] _ _ rfl rfl rfl
     refine ACode_skip ?_
     cases h
     exact Weak_keep 0 hm [1, 2, 5, 24, 25, 26] [0, 1] _ _ rfl rfl rfl
    refine (ACode_region ?_)
    refine AOps_q 39 _ rfl rfl rfl (QOp_add _ _ _ _ _ _ _ rfl rfl rfl) ?_
    refine kN 1 rfl ?_
    exact ⟨k0, _, _, Nat.lt_succ_self _, Weak_keep 0 hm [1, 2, 5, 24, 25, 26] [0, 1] _ _ rfl rfl rfl, _, _, rfl, rfl, h⟩
   refine ACode_exit ?_
   cases h
   exact Weak_keep 0 hm [2, 5] [0, 1] _ _ rfl rfl rfl
 refine kR ?_
 refine AOps_q 40 _ rfl rfl rfl (QOp_loadN_ptr _ _ _ _ _ _ _ rfl Tryz.isAgg26 Tryz.sizeOf26 rfl rfl (colD_all _) (colD_length _)) ?_
 refine AOps_store _ _ _ _ _ _ (colD _) _ _ rfl rfl rfl rfl rfl rfl rfl (colD_one _) (by rw [colD_length]; exact Tryz.sizeOf26) (by rw [colD_length, colD_length]; decide) (colD_whole _ _) ?_
 refine kN 1 rfl ?_
 refine ACode_ret ?_
 cases h
 exact ⟨_, _, fun r a w h => ⟨r, h⟩, _, _, [], _, (.cons (ResV_agg _ _ _ _ _ _ Tryz.isAgg26 Tryz.sizeOf26 rfl rfl (colD_take _) (colD_length _)) (.cons (ResV_tmp _ _ rfl) .nil)), rfl, rfl, rfl, rfl, rfl⟩

def spec_l01In (p0 : Int) (p1 : Int) (p2 : Int) : Bool :=
 letO (if decide (p1 ≤ p0) then decide (p0 ≤ p2) else false) fun (s2 : Bool) => s2
theorem spec_l01In_ac (p0 : Int) (p1 : Int) (p2 : Int) : AC Tryz.prog 51 [iV p0, iV p1, iV p2] [] (fun res H' => res = [bV (spec_l01In p0 p1 p2)] ∧ H' = []) := by
 refine AC_of_body true Tryz.func51 rfl Tryz.ntmps51 (rvs := [.tmp 6]) rfl rfl (fun G hG => ?_)
 have hm : G.H.length = 0 := by rw [hG]; rfl
 have hz : zeroG G.H = true := by rw [hG]; rfl
 obtain ⟨r, h⟩ : ∃ r, spec_l01In p0 p1 p2 = r := ⟨_, rfl⟩
 rw [h]
 unfold spec_l01In at h
 refine kR ?_
 refine kN 1 rfl ?_
 refine kL (fun s2 => [(6, bV s2)]) (fun s2 => []) h (fun s2 h => ?_) (fun s2 h => ?_)
 ·refine (ACode_region ?_)
  refine kM 2 rfl ?_
  refine AOps_q 9 _ rfl rfl rfl (QOp_geq _ _ _ _ _ _ _ rfl rfl rfl) ?_
  refine kM 1 rfl ?_
  refine AOps_case 10 _ rfl (fun hb1 => ?_) (fun hb1 => ?_)
  ·have h := iteT hb1 h
   refine kM 2 rfl ?_
   refine AOps_q 13 _ rfl rfl rfl (QOp_leq _ _ _ _ _ _ _ rfl rfl rfl) ?_
   refine kN 2 rfl ?_
   cases h
   exact Weak_keep 0 hm [6] [] _ _ rfl rfl rfl
  have h := iteF hb1 h
  refine AOps_skip 11 rfl rfl rfl ?_
  refine AOps_skip 12 rfl rfl rfl ?_
  refine AOps_skip 13 rfl rfl rfl ?_
  refine kN 2 rfl ?_
  cases h
  exact Weak_keep 0 hm [6] [] _ _ rfl rfl rfl
 refine ACode_ret ?_
 cases h
 exact ⟨_, _, fun r a w h => ⟨r, h⟩, _, _, [], _, (.cons (ResV_tmp _ _ rfl) .nil), rfl, rfl, rfl, rfl, rfl⟩

def spec_l01Is_l0 (k : Nat) (p0 : Col) : Nat → Int → Option (Sum (Unit) (Bool))
 | 0, _ => none
 | k0 + 1, x7 => (if decide (x7 < 136) then (((if decide (x7 < w64 ((w64 (p0.p * (w64 (p0.p - 1)))).tdiv 2)) then (if 0 ≤ x7 ∧ x7 < 136 then (if decide (p0.k ≤ ((p0.get x7.toNat).toNat : Int)) then some true else (if decide (w64 ((w64 (p0.p * (w64 (p0.p - 1)))).tdiv 2) ≤ x7) then (if 0 ≤ x7 ∧ x7 < 136 then some (!decide (((p0.get x7.toNat).toNat : Int) = 0)) else none) else some false)) else none) else (if decide (w64 ((w64 (p0.p * (w64 (p0.p - 1)))).tdiv 2) ≤ x7) then (if 0 ≤ x7 ∧ x7 < 136 then some (!decide (((p0.get x7.toNat).toNat : Int) = 0)) else none) else some false)) : Option (Bool)).bind fun s16 => (if s16 then (some (.inr false)).bind fun rr => some (.inr rr) else some (.inl ())) : Option (Sum (Unit) (Sum (Unit) (Bool)))).bind fun os18 => (match os18 with | .inl s18 => spec_l01Is_l0 k p0 k0 (w64 (x7 + 1)) | .inr rr => some rr) else some (.inl ()))
def spec_l01Is (k : Nat) (p0 : Col) : Option (Bool) :=
 (letO (if !(spec_l01In p0.p 1 17) then true else !(spec_l01In p0.k 1 4)) fun (s4 : Bool) => (if s4 then some (.inr false) else some (.inl ())) : Option (Sum (Unit) (Bool))).bind fun os6 => (match os6 with | .inl s6 => (spec_l01Is_l0 k p0 k 0 : Option (Sum (Unit) (Bool))).bind fun os19 => (match os19 with | .inl s19 => some true | .inr rr => some rr) | .inr rr => some rr)
theorem spec_l01Is_ac (k : Nat) (p0 : Col) (r : Bool) (h : spec_l01Is k p0 = some r) : AC Tryz.prog 32 [.d (.agg (colD p0))] [] (fun res H' => res = [bV r] ∧ H' = []) := by
 refine AC_of_body true Tryz.func32 rfl Tryz.ntmps32 (rvs := [.tmp 2]) rfl rfl (fun G hG => ?_)
 have hm : G.H.length = 0 := by rw [hG]; rfl
 have hz : zeroG G.H = true := by rw [hG]; rfl
 unfold spec_l01Is at h
 refine kR ?_
 refine AOps_boxI 1 _ _ (.agg (colD p0)) (colD p0) rfl (colD_one _) rfl rfl rfl rfl rfl ?_
 refine kN 1 rfl ?_
 refine kO (fun s6 => [(1, .d (.pv (colD p0) 0))]) (fun s6 => []) h (fun os6 h hks6 => ?_) (fun s6 h => ?_)
 ·refine kL (fun s4 => [(1, .d (.pv (colD p0) 0)), (14, bV s4)]) (fun s4 => []) h (fun s4 h => ?_) (fun s4 h => ?_)
  ·refine (ACode_region ?_)
   refine AOps_q 5 _ rfl rfl rfl (QOp_fieldAddr_pv _ _ _ _ _ 0 _ _ rfl Tryz.underlying26 rfl _ Tryz.sizeOf2 rfl rfl) ?_
   refine AOps_q 6 _ rfl rfl rfl (QOp_load_pv _ _ _ _ _ rfl Tryz.isAgg2 rfl rfl) ?_
   refine kC [] 7 (bV (spec_l01In p0.p 1 17)) [] rfl Tryz.call51 rfl rfl (spec_l01In_ac p0.p 1 17) rfl ?_
   refine AOps_q 8 _ rfl rfl rfl (QOp_not _ _ _ rfl rfl) ?_
   refine kM 1 rfl ?_
   refine AOps_case 9 _ rfl (fun hb2 => ?_) (fun hb2 => ?_)
   ·have h := iteT hb2 h
    refine AOps_skip 10 rfl rfl rfl ?_
    refine AOps_skip 11 rfl rfl rfl ?_
    refine AOps_skip 12 rfl rfl rfl ?_
    refine AOps_skip 13 rfl rfl rfl ?_
    refine kN 1 rfl ?_
    cases h
    exact Weak_keep 0 hm [1, 14] [] _ _ rfl rfl rfl
   have h := iteF hb2 h
   refine AOps_q 10 _ rfl rfl rfl (QOp_fieldAddr_pv _ _ _ _ _ 1 _ _ rfl Tryz.underlying26 rfl _ Tryz.sizeOf2 rfl rfl) ?_
   refine AOps_q 11 _ rfl rfl rfl (QOp_load_pv _ _ _ _ _ rfl Tryz.isAgg2 rfl rfl) ?_
   refine kC [] 12 (bV (spec_l01In p0.k 1 4)) [] rfl Tryz.call51 rfl rfl (spec_l01In_ac p0.k 1 4) rfl ?_
   refine AOps_q 13 _ rfl rfl rfl (QOp_not _ _ _ rfl rfl) ?_
   refine kN 1 rfl ?_
   cases h
   exact Weak_keep 0 hm [1, 14] [] _ _ rfl rfl rfl
  refine kI h rfl (fun h _ => ?_) (fun h _ => ?_)
  ·refine kR ?_
   refine kN 1 rfl ?_
   refine ACode_ret ?_
   cases h
   have h := hks6
   cases h
   exact ⟨_, _, fun r a w h => ⟨r, h⟩, _, _, [], _, (.cons (ResV_tmp _ _ rfl) .nil), rfl, rfl, rfl, rfl, rfl⟩
  refine ACode_skip ?_
  cases h
  exact ⟨_, rfl, Weak_keep 0 hm [1] [] _ _ rfl rfl rfl⟩
 refine kR ?_
 refine AOps_q 15 _ rfl rfl rfl (QOp_fieldAddr_pv _ _ _ _ _ 0 _ _ rfl Tryz.underlying26 rfl _ Tryz.sizeOf2 rfl rfl) ?_
 refine AOps_q 16 _ rfl rfl rfl (QOp_load_pv _ _ _ _ _ rfl Tryz.isAgg2 rfl rfl) ?_
 refine AOps_q 17 _ rfl rfl rfl (QOp_fieldAddr_pv _ _ _ _ _ 0 _ _ rfl Tryz.underlying26 rfl _ Tryz.sizeOf2 rfl rfl) ?_
 refine AOps_q 18 _ rfl rfl rfl (QOp_load_pv _ _ _ _ _ rfl Tryz.isAgg2 rfl rfl) ?_
 refine AOps_q 19 _ rfl rfl rfl (QOp_sub _ _ _ _ _ _ _ rfl rfl rfl) ?_
 refine AOps_q 20 _ rfl rfl rfl (QOp_mul _ _ _ _ _ _ _ rfl rfl rfl) ?_
 refine AOps_q 21 _ rfl rfl rfl (QOp_quo _ _ _ _ _ _ _ (by decide) rfl rfl rfl) ?_
 refine kN 1 rfl ?_
 refine kO (fun s19 => []) (fun s19 => []) h (fun os19 h hks19 => ?_) (fun s19 h => ?_)
 ·refine kR ?_
  refine kN 1 rfl ?_
  refine ACode_block ?_
  refine ACode_loopW (fun k0 E H => ∃ (x7 : Int), E = [(1, .d (.pv (colD p0) 0)), (3, iV (w64 ((w64 (p0.p * (w64 (p0.p - 1)))).tdiv 2))), (4, iV x7)] ∧ H = [] ∧ spec_l01Is_l0 k p0 k0 x7 = some os19) k _ _ (Weak_keep 0 hm [1, 3, 4] [] _ _ rfl rfl rfl) ⟨_, rfl, rfl, h⟩ ?_
  clear h
  rintro k0 E H ⟨x7, rfl, rfl, h⟩
  cases k0 with
  | zero => cases (show (none : Option (Sum (Unit) (Bool))) = some _ from h)
  | succ k0 =>
   rw [spec_l01Is_l0] at h
   refine ACode_seq ?_
   refine kR ?_
   refine kM 1 rfl ?_
   refine AOps_q 23 _ rfl rfl rfl (QOp_lss _ _ _ _ _ _ _ rfl rfl rfl) ?_
   refine AOps_nil ?_
   refine kI h rfl (fun h _ => ?_) (fun h _ => ?_)
   ·refine ACode_skip ?_
    refine kO (fun s18 => [(1, .d (.pv (colD p0) 0)), (3, iV (w64 ((w64 (p0.p * (w64 (p0.p - 1)))).tdiv 2))), (4, iV x7)]) (fun s18 => []) h (fun os18 h hks18 => ?_) (fun s18 h => ?_)
    ·refine ACode_block ?_
     refine kB (fun s16 => [(1, .d (.pv (colD p0) 0)), (3, iV (w64 ((w64 (p0.p * (w64 (p0.p - 1)))).tdiv 2))), (4, iV x7), (50, bV s16)]) (fun s16 => []) h (fun s16 h => ?_) (fun s16 h => ?_)
     ·refine (ACode_quiet mixed (by kernel_rfl) ?_)
      refine kQ 2 rfl ?_
      refine AQ_q 28 _ rfl rfl rfl (QOp_lss _ _ _ _ _ _ _ rfl rfl rfl) ?_
      refine kQ 1 rfl ?_
      refine AQ_case 29 _ rfl (fun hb9 => ?_) (fun hb9 => ?_)
      ·have h := iteT hb9 h
       refine kQ 1 rfl ?_
       refine AQ_q 31 _ rfl rfl rfl (QOp_fieldAddr_pv _ _ _ _ _ 2 _ _ rfl Tryz.underlying26 rfl _ Tryz.sizeOf24 rfl rfl) ?_
       obtain ⟨hc10, h⟩ := guardO h
       refine AQ_q 32 _ rfl rfl rfl (QOp_indexAddrA_pv _ _ _ _ _ _ _ _ _ rfl Tryz.underlying24 Tryz.sizeOf5 hc10.1 hc10.2 rfl rfl) ?_
       refine AQ_q 33 _ rfl rfl rfl (QOp_load_pv _ _ _ _ _ rfl Tryz.isAgg5 rfl (colD_get _ _ (by omega))) ?_
       refine AQ_q 34 _ rfl rfl rfl (QOp_fromByte _ _ _ _ _ rfl rfl Tryz.underlying2 wrap_i64_byte rfl) ?_
       refine AQ_q 35 _ rfl rfl rfl (QOp_fieldAddr_pv _ _ _ _ _ 1 _ _ rfl Tryz.underlying26 rfl _ Tryz.sizeOf2 rfl rfl) ?_
       refine AQ_q 36 _ rfl rfl rfl (QOp_load_pv _ _ _ _ _ rfl Tryz.isAgg2 rfl rfl) ?_
       refine AQ_q 37 _ rfl rfl rfl (QOp_geq _ _ _ _ _ _ _ rfl rfl rfl) ?_
       refine kQ 2 rfl ?_
       refine AQ_case 39 _ rfl (fun hb11 => ?_) (fun hb11 => ?_)
       ·have h := iteT hb11 h
        refine AQ_skip 40 rfl rfl rfl ?_
        refine AQ_skip 41 rfl rfl rfl ?_
        refine AQ_skip 42 rfl rfl rfl ?_
        refine AQ_skip 43 rfl rfl rfl ?_
        refine AQ_skip 44 rfl rfl rfl ?_
        refine AQ_skip 45 rfl rfl rfl ?_
        refine AQ_skip 46 rfl rfl rfl ?_
        refine AQ_skip 47 rfl rfl rfl ?_
        refine AQ_skip 48 rfl rfl rfl ?_
        refine AQ_skip 49 rfl rfl rfl ?_
        refine kQ 1 rfl ?_
        refine AQ_nil ?_
        cases h
        exact Weak_keep 0 hm [1, 3, 4, 50] [] _ _ rfl rfl rfl
       have h := iteF hb11 h
       refine kQ 2 rfl ?_
       refine AQ_q 42 _ rfl rfl rfl (QOp_geq _ _ _ _ _ _ _ rfl rfl rfl) ?_
       refine kQ 1 rfl ?_
       refine AQ_case 43 _ rfl (fun hb12 => ?_) (fun hb12 => ?_)
       ·have h := iteT hb12 h
        refine kQ 1 rfl ?_
        refine AQ_q 45 _ rfl rfl rfl (QOp_fieldAddr_pv _ _ _ _ _ 2 _ _ rfl Tryz.underlying26 rfl _ Tryz.sizeOf24 rfl rfl) ?_
        obtain ⟨hc13, h⟩ := guardO h
        refine AQ_q 46 _ rfl rfl rfl (QOp_indexAddrA_pv _ _ _ _ _ _ _ _ _ rfl Tryz.underlying24 Tryz.sizeOf5 hc13.1 hc13.2 rfl rfl) ?_
        refine AQ_q 47 _ rfl rfl rfl (QOp_load_pv _ _ _ _ _ rfl Tryz.isAgg5 rfl (colD_get _ _ (by omega))) ?_
        refine AQ_q 48 _ rfl rfl rfl (QOp_neq _ _ _ _ _ _ _ rfl rfl rfl) ?_
        refine kQ 2 rfl ?_
        refine AQ_nil ?_
        cases h
        exact Weak_keep 0 hm [1, 3, 4, 50] [] _ _ rfl rfl rfl
       have h := iteF hb12 h
       refine AQ_skip 44 rfl rfl rfl ?_
       refine AQ_skip 45 rfl rfl rfl ?_
       refine AQ_skip 46 rfl rfl rfl ?_
       refine AQ_skip 47 rfl rfl rfl ?_
       refine AQ_skip 48 rfl rfl rfl ?_
       refine kQ 2 rfl ?_
       refine AQ_nil ?_
       cases h
       exact Weak_keep 0 hm [1, 3, 4, 50] [] _ _ rfl rfl rfl
      have h := iteF hb9 h
      refine AQ_skip 30 rfl rfl rfl ?_
      refine AQ_skip 31 rfl rfl rfl ?_
      refine AQ_skip 32 rfl rfl rfl ?_
      refine AQ_skip 33 rfl rfl rfl ?_
      refine AQ_skip 34 rfl rfl rfl ?_
      refine AQ_skip 35 rfl rfl rfl ?_
      refine AQ_skip 36 rfl rfl rfl ?_
      refine AQ_skip 37 rfl rfl rfl ?_
      refine kQ 4 rfl ?_
      refine AQ_q 42 _ rfl rfl rfl (QOp_geq _ _ _ _ _ _ _ rfl rfl rfl) ?_
      refine kQ 1 rfl ?_
      refine AQ_case 43 _ rfl (fun hb14 => ?_) (fun hb14 => ?_)
      ·have h := iteT hb14 h
       refine kQ 1 rfl ?_
       refine AQ_q 45 _ rfl rfl rfl (QOp_fieldAddr_pv _ _ _ _ _ 2 _ _ rfl Tryz.underlying26 rfl _ Tryz.sizeOf24 rfl rfl) ?_
       obtain ⟨hc15, h⟩ := guardO h
       refine AQ_q 46 _ rfl rfl rfl (QOp_indexAddrA_pv _ _ _ _ _ _ _ _ _ rfl Tryz.underlying24 Tryz.sizeOf5 hc15.1 hc15.2 rfl rfl) ?_
       refine AQ_q 47 _ rfl rfl rfl (QOp_load_pv _ _ _ _ _ rfl Tryz.isAgg5 rfl (colD_get _ _ (by omega))) ?_
       refine AQ_q 48 _ rfl rfl rfl (QOp_neq _ _ _ _ _ _ _ rfl rfl rfl) ?_
       refine kQ 2 rfl ?_
       refine AQ_nil ?_
       cases h
       exact Weak_keep 0 hm [1, 3, 4, 50] [] _ _ rfl rfl rfl
      have h := iteF hb14 h
      refine AQ_skip 44 rfl rfl rfl ?_
      refine AQ_skip 45 rfl rfl rfl ?_
      refine AQ_skip 46 rfl rfl rfl ?_
      refine AQ_skip 47 rfl rfl rfl ?_
      refine AQ_skip 48 rfl rfl rfl ?_
      refine kQ 2 rfl ?_
      refine AQ_nil ?_
      cases h
      exact Weak_keep 0 hm [1, 3, 4, 50] [] _ _ rfl rfl rfl
     refine kI h rfl (fun h _ => ?_) (fun h _ => ?_)
     ·refine kR ?_
      refine kN 1 rfl ?_
      refine ACode_ret ?_
      obtain ⟨rr, hz20, h2⟩ := bindO h
      obtain rfl := Option.some.inj h2
      obtain rfl := Option.some.inj (show some rr = some _ from hks18)
      have h := hz20
      cases h
      have h := hks19
      cases h
      exact ⟨_, _, fun r a w h => ⟨r, h⟩, _, _, [], _, (.cons (ResV_tmp _ _ rfl) .nil), rfl, rfl, rfl, rfl, rfl⟩
     refine ACode_skip ?_
     cases h
     exact ⟨_, rfl, Weak_keep 0 hm [1, 3, 4] [] _ _ rfl rfl rfl⟩
    refine (ACode_region ?_)
    refine kM 1 rfl ?_
    refine AOps_q 25 _ rfl rfl rfl (QOp_add _ _ _ _ _ _ _ rfl rfl rfl) ?_
    refine kN 1 rfl ?_
    exact ⟨k0, _, _, Nat.lt_succ_self _, Weak_keep 0 hm [1, 3, 4] [] _ _ rfl rfl rfl, _, rfl, rfl, h⟩
   refine ACode_exit ?_
   cases h
   exact ⟨_, rfl, Weak_keep 0 hm [] [] _ _ rfl rfl rfl⟩
 refine kR ?_
 refine kN 1 rfl ?_
 refine ACode_ret ?_
 cases h
 exact ⟨_, _, fun r a w h => ⟨r, h⟩, _, _, [], _, (.cons (ResV_tmp _ _ rfl) .nil), rfl, rfl, rfl, rfl, rfl⟩

def spec_l06Orders_l1 (p0 : List Int) (x2 : Int) : Nat → Bool → Int → Option (Bool)
 | 0, _, _ => none
 | k1 + 1, x5, x6 => (if decide (x6 < (p0.length : Int)) then ((if x5 then some true else (if 0 ≤ x6 ∧ x6 < (p0.length : Int) then some (decide ((p0.getD x6.toNat 0) = x2)) else none)) : Option (Bool)).bind fun s10 => spec_l06Orders_l1 p0 x2 k1 s10 (w64 (x6 + 1)) else some x5)
def spec_l06Orders_l0 (k : Nat) (self : (List Int) → Int → Option (List (List Int))) (p0 : List Int) (p1 : Int) : Nat → Int → (List (List Int)) → Option (List (List Int))
 | 0, _, _ => none
 | k0 + 1, x2, x3 => (if decide (x2 < p1) then ((spec_l06Orders_l1 p0 x2 k false 0 : Option (Bool)).bind fun s11 => (if !s11 then (spec_l01Own p0).bind fun r13 => (if r13.length + ([x2]).length ≤ 1099511627776 then (self (r13 ++ ([x2])) p1).bind fun r15 => (if x3.length + r15.length ≤ 1099511627776 then some (x3 ++ r15) else none) else none) else some x3) : Option (List (List Int))).bind fun s17 => spec_l06Orders_l0 k self p0 p1 k0 (w64 (x2 + 1)) s17 else some x3)
def spec_l06Orders_body (self : (List Int) → Int → Option (List (List Int))) (k : Nat) (p0 : List Int) (p1 : Int) : Option (List (List Int)) :=
 (if decide ((p0.length : Int) = p1) then some ([p0]) else (spec_l06Orders_l0 k self p0 p1 k 0 ([] : List (List Int)) : Option (List (List Int))).bind fun s18 => some s18)
def spec_l06Orders : Nat → (List Int) → Int → Option (List (List Int))
 | 0, _, _ => none
 | k + 1, p0, p1 => spec_l06Orders_body (spec_l06Orders k) k p0 p1
theorem spec_l06Orders_ac (k : Nat) (p0 : List Int) (p1 : Int) (r : List (List Int)) (h : spec_l06Orders k p0 p1 = some r) : AC Tryz.prog 33 [.d (.sl none (intsD p0)), iV p1] [] (fun res H' => res = [.d (.sl none (rowsD r))] ∧ H' = []) := by
 induction k generalizing p0 p1 r with
 | zero => simp [spec_l06Orders] at h
 | succ k ih =>
  rw [spec_l06Orders] at h
  obtain ⟨self, hself, hk⟩ : ∃ self : (List Int) → Int → Option (List (List Int)), (∀ (p0 : List Int) (p1 : Int) (r : List (List Int)), self p0 p1 = some r → AC Tryz.prog 33 [.d (.sl none (intsD p0)), iV p1] [] (fun res H' => res = [.d (.sl none (rowsD r))] ∧ H' = [])) ∧ spec_l06Orders k = self := ⟨spec_l06Orders k, fun p0 p1 r h => ih p0 p1 r h, rfl⟩
  rw [hk] at h
  clear ih hk
  refine AC_of_body true Tryz.func33 rfl Tryz.ntmps33 (rvs := [.tmp 4]) rfl rfl (fun G hG => ?_)
  have hm : G.H.length = 0 := by rw [hG]; rfl
  have hz : zeroG G.H = true := by rw [hG]; rfl
  unfold spec_l06Orders_body at h
  refine kR ?_
  refine kN 1 rfl ?_
  refine ACode_seq ?_
  refine kR ?_
  refine kM 1 rfl ?_
  refine AOps_q 10 _ rfl rfl rfl (QOp_len_sl _ _ _ _ _ _ _ (intsD_length _) rfl rfl rfl rfl Tryz.underlying40 rfl) ?_
  refine kM 1 rfl ?_
  refine AOps_q 12 _ rfl rfl rfl (QOp_eql _ _ _ _ _ _ _ rfl rfl rfl) ?_
  refine AOps_nil ?_
  refine kI h rfl (fun h _ => ?_) (fun h _ => ?_)
  ·refine kR ?_
   refine kM 1 rfl ?_
   refine AOps_buildSlice 14 _ _ _ [_] (rowsD ([p0])) _ rfl rfl rfl rfl rfl (by decide) Tryz.underlying30 Tryz.sizeOf40 (zero_of Tryz.typeInfo40 rfl) rfl rfl (rowsD_one _) ?_
   refine kN 1 rfl ?_
   refine ACode_ret ?_
   cases h
   exact ⟨_, _, fun r a w h => ⟨r, h⟩, _, _, [], _, (.cons (ResV_tmp _ _ rfl) .nil), rfl, rfl, rfl, rfl, rfl⟩
  refine ACode_skip ?_
  refine kR ?_
  refine AOps_buildSlice 15 _ _ _ [] (rowsD ([] : List (List Int))) _ rfl rfl rfl rfl rfl (by decide) Tryz.underlying30 Tryz.sizeOf40 (zero_of Tryz.typeInfo40 rfl) rfl rfl (rowsD_one _) ?_
  refine kN 1 rfl ?_
  refine kB (fun s18 => [(5, .vec 0 0)]) (fun s18 => [.vec 0 (rowsD s18)]) h (fun s18 h => ?_) (fun s18 h => ?_)
  ·refine kR ?_
   refine kN 1 rfl ?_
   refine ACode_block ?_
   refine ACode_loopW (fun k0 E H => ∃ (x2 : Int) (x3 : List (List Int)), E = [(0, .d (.sl none (intsD p0))), (1, iV p1), (5, .vec 0 0), (6, iV x2)] ∧ H = [.vec 0 (rowsD x3)] ∧ spec_l06Orders_l0 k self p0 p1 k0 x2 x3 = some s18) k _ _ (Weak_keep 0 hm [0, 1, 5, 6] [0] _ _ rfl rfl rfl) ⟨_, _, rfl, rfl, h⟩ ?_
   clear h
   rintro k0 E H ⟨x2, x3, rfl, rfl, h⟩
   cases k0 with
   | zero => cases (show (none : Option (List (List Int))) = some _ from h)
   | succ k0 =>
    rw [spec_l06Orders_l0] at h
    refine ACode_seq ?_
    refine kR ?_
    refine kM 2 rfl ?_
    refine AOps_q 18 _ rfl rfl rfl (QOp_lss _ _ _ _ _ _ _ rfl rfl rfl) ?_
    refine AOps_nil ?_
    refine kI h rfl (fun h _ => ?_) (fun h _ => ?_)
    ·refine ACode_skip ?_
     refine kB (fun s17 => [(0, .d (.sl none (intsD p0))), (1, iV p1), (5, .vec 0 0), (6, iV x2)]) (fun s17 => [.vec 0 (rowsD s17)]) h (fun s17 h => ?_) (fun s17 h => ?_)
     ·refine ACode_block ?_
      refine kR ?_
      refine kN 1 rfl ?_
      refine kB (fun s11 => [(0, .d (.sl none (intsD p0))), (1, iV p1), (5, .vec 0 0), (6, iV x2), (7, bV s11)]) (fun s11 => [.vec 0 (rowsD x3)]) h (fun s11 h => ?_) (fun s11 h => ?_)
      ·refine kR ?_
       refine kN 1 rfl ?_
       refine ACode_block ?_
       refine ACode_loopW (fun k1 E H => ∃ (x5 : Bool) (x6 : Int), E = [(0, .d (.sl none (intsD p0))), (1, iV p1), (5, .vec 0 0), (6, iV x2), (7, bV x5), (8, iV x6)] ∧ H = [.vec 0 (rowsD x3)] ∧ spec_l06Orders_l1 p0 x2 k1 x5 x6 = some s11) k _ _ (Weak_keep 0 hm [0, 1, 5, 6, 7, 8] [0] _ _ rfl rfl rfl) ⟨_, _, rfl, rfl, h⟩ ?_
       clear h
       rintro k1 E H ⟨x5, x6, rfl, rfl, h⟩
       cases k1 with
       | zero => cases (show (none : Option (Bool)) = some _ from h)
       | succ k1 =>
        rw [spec_l06Orders_l1] at h
        refine ACode_seq ?_
        refine kR ?_
        refine kM 2 rfl ?_
        refine AOps_q 23 _ rfl rfl rfl (QOp_len_sl _ _ _ _ _ _ _ (intsD_length _) rfl rfl rfl rfl Tryz.underlying40 rfl) ?_
        refine AOps_q 24 _ rfl rfl rfl (QOp_lss _ _ _ _ _ _ _ rfl rfl rfl) ?_
        refine AOps_nil ?_
        refine kI h rfl (fun h _ => ?_) (fun h _ => ?_)
        ·refine ACode_skip ?_
         refine kB (fun s10 => [(0, .d (.sl none (intsD p0))), (1, iV p1), (5, .vec 0 0), (6, iV x2), (7, bV s10), (8, iV x6)]) (fun s10 => [.vec 0 (rowsD x3)]) h (fun s10 h => ?_) (fun s10 h => ?_)
         ·refine ACode_block ?_
          refine (ACode_region ?_)
          refine kM 2 rfl ?_
          refine AOps_case 28 _ rfl (fun hb8 => ?_) (fun hb8 => ?_)
          ·have h := iteT hb8 h
           refine AOps_skip 29 rfl rfl rfl ?_
           refine AOps_skip 30 rfl rfl rfl ?_
           refine AOps_skip 31 rfl rfl rfl ?_
           refine AOps_skip 32 rfl rfl rfl ?_
           refine AOps_skip 33 rfl rfl rfl ?_
           refine AOps_skip 34 rfl rfl rfl ?_
           refine kN 2 rfl ?_
           cases h
           exact Weak_keep 0 hm [0, 1, 5, 6, 7, 8] [0] _ _ rfl rfl rfl
          have h := iteF hb8 h
          refine kM 2 rfl ?_
          obtain ⟨hc9, h⟩ := guardO h
          refine AOps_q 31 _ rfl rfl rfl (QOp_indexAddr_sl _ _ _ _ _ _ _ _ rfl Tryz.underlying40 Tryz.sizeOf2 hc9.1 (by rw [intsD_length]; exact hc9.2) rfl rfl) ?_
          refine AOps_q 32 _ rfl rfl rfl (QOp_load_pv _ _ _ _ _ rfl Tryz.isAgg2 rfl (intsD_get _ _ 0 (by omega))) ?_
          refine kM 1 rfl ?_
          refine AOps_q 34 _ rfl rfl rfl (QOp_eql _ _ _ _ _ _ _ rfl rfl rfl) ?_
          refine kN 2 rfl ?_
          cases h
          exact Weak_keep 0 hm [0, 1, 5, 6, 7, 8] [0] _ _ rfl rfl rfl
         refine (ACode_region ?_)
         refine kM 1 rfl ?_
         refine AOps_q 26 _ rfl rfl rfl (QOp_add _ _ _ _ _ _ _ rfl rfl rfl) ?_
         refine kN 1 rfl ?_
         exact ⟨k1, _, _, Nat.lt_succ_self _, Weak_keep 0 hm [0, 1, 5, 6, 7, 8] [0] _ _ rfl rfl rfl, _, _, rfl, rfl, h⟩
        refine ACode_exit ?_
        cases h
        exact Weak_keep 0 hm [0, 1, 5, 6, 7] [0] _ _ rfl rfl rfl
      refine kR ?_
      refine kM 1 rfl ?_
      refine AOps_q 37 _ rfl rfl rfl (QOp_not _ _ _ rfl rfl) ?_
      refine AOps_nil ?_
      refine kI h rfl (fun h _ => ?_) (fun h _ => ?_)
      ·refine (ACode_region ?_)
       refine kM 2 rfl ?_
       obtain ⟨r13, hr13, h⟩ := bindO h
       refine kC [] 40 (.vec 1 0) [.vec 0 (rowsD x3), .vec 0 (intsD r13)] rfl Tryz.call69 rfl rfl (spec_l01Own_ac p0 _ hr13) rfl ?_
       refine kM 1 rfl ?_
       refine AOps_buildSlice 42 _ _ _ [_] (intsD ([x2])) _ rfl rfl rfl rfl rfl (by decide) Tryz.underlying40 Tryz.sizeOf2 (zero_of Tryz.typeInfo2 rfl) rfl rfl (intsD_one _) ?_
       obtain ⟨hc14, h⟩ := guardO h
       refine AOps_append 43 _ _ _ _ _ _ _ _ _ _ _ _ rfl rfl rfl rfl rfl rfl rfl Tryz.underlying40 Tryz.type2 rfl rfl rfl (by decide) rfl rfl rfl rfl (intsD_one _) (by rw [intsD_length, intsD_length]; exact hc14) ?_
       rw [intsD_app]
       refine kM 1 rfl ?_
       refine AOps_freezeL [43] 1 1 _ (allc (rfl) (fun _ h => nomatch h)) rfl ?_
       obtain ⟨r15, hr15, h⟩ := bindO h
       refine kC [] 45 (.d (.sl none (rowsD r15))) [.vec 0 (rowsD x3), .gone, .vec 0 (intsD ([x2]))] rfl Tryz.call33 rfl rfl (hself (r13 ++ ([x2])) p1 _ hr15) rfl ?_
       obtain ⟨hc16, h⟩ := guardO h
       refine AOps_append 46 _ _ _ _ _ _ _ _ _ _ _ _ rfl rfl rfl rfl rfl rfl rfl Tryz.underlying30 Tryz.type40 rfl rfl rfl (by decide) rfl rfl rfl rfl (rowsD_one _) (by rw [rowsD_length, rowsD_length]; exact hc16) ?_
       rw [rowsD_app]
       refine kN 1 rfl ?_
       cases h
       exact Weak_trans (Weak_keep 0 hm [0, 1, 5, 6] [0] _ _ rfl rfl rfl) (Weak_reset 0 hm hz [0, 1, 5, 6] _ _ rfl rfl)
      refine ACode_skip ?_
      cases h
      exact Weak_keep 0 hm [0, 1, 5, 6] [0] _ _ rfl rfl rfl
     refine (ACode_region ?_)
     refine kM 1 rfl ?_
     refine AOps_q 20 _ rfl rfl rfl (QOp_add _ _ _ _ _ _ _ rfl rfl rfl) ?_
     refine kN 1 rfl ?_
     exact ⟨k0, _, _, Nat.lt_succ_self _, Weak_keep 0 hm [0, 1, 5, 6] [0] _ _ rfl rfl rfl, _, _, rfl, rfl, h⟩
    refine ACode_exit ?_
    cases h
    exact Weak_keep 0 hm [5] [0] _ _ rfl rfl rfl
  refine kR ?_
  refine kN 2 rfl ?_
  refine ACode_ret ?_
  cases h
  exact ⟨_, _, fun r a w h => ⟨r, h⟩, _, _, [], _, (.cons (ResV_tmp _ _ rfl) .nil), rfl, rfl, rfl, rfl, rfl⟩

def spec_l06Less_l0 (p0 : Col) (p1 : Col) : Nat → Int → Option (Sum (Unit) (Bool))
 | 0, _ => none
 | k0 + 1, x1 => (if decide (x1 < 136) then (if 0 ≤ x1 ∧ x1 < 136 then (if 0 ≤ x1 ∧ x1 < 136 then (if !decide (((p0.get x1.toNat).toNat : Int) = ((p1.get x1.toNat).toNat : Int)) then (if 0 ≤ x1 ∧ x1 < 136 then (if 0 ≤ x1 ∧ x1 < 136 then some (.inr (decide (((p0.get x1.toNat).toNat : Int) < ((p1.get x1.toNat).toNat : Int)))) else none) else none) else spec_l06Less_l0 p0 p1 k0 (w64 (x1 + 1))) else none) else none) else some (.inl ()))
def spec_l06Less (k : Nat) (p0 : Col) (p1 : Col) : Option (Bool) :=
 (spec_l06Less_l0 p0 p1 k 0 : Option (Sum (Unit) (Bool))).bind fun os8 => (match os8 with | .inl s8 => some false | .inr rr => some rr)
theorem spec_l06Less_ac (k : Nat) (p0 : Col) (p1 : Col) (r : Bool) (h : spec_l06Less k p0 p1 = some r) : AC Tryz.prog 35 [.d (.agg (colD p0)), .d (.agg (colD p1))] [] (fun res H' => res = [bV r] ∧ H' = []) := by
 refine AC_of_body true Tryz.func35 rfl Tryz.ntmps35 (rvs := [.tmp 4]) rfl rfl (fun G hG => ?_)
 have hm : G.H.length = 0 := by rw [hG]; rfl
 have hz : zeroG G.H = true := by rw [hG]; rfl
 unfold spec_l06Less at h
 refine kR ?_
 refine AOps_boxI 2 _ _ (.agg (colD p0)) (colD p0) rfl (colD_one _) rfl rfl rfl rfl rfl ?_
 refine AOps_boxI 3 _ _ (.agg (colD p1)) (colD p1) rfl (colD_one _) rfl rfl rfl rfl rfl ?_
 refine kN 1 rfl ?_
 refine kO (fun s8 => []) (fun s8 => []) h (fun os8 h hks8 => ?_) (fun s8 h => ?_)
 ·refine kR ?_
  refine kN 1 rfl ?_
  refine ACode_block ?_
  refine ACode_loopW (fun k0 E H => ∃ (x1 : Int), E = [(2, .d (.pv (colD p0) 0)), (3, .d (.pv (colD p1) 0)), (5, iV x1)] ∧ H = [] ∧ spec_l06Less_l0 p0 p1 k0 x1 = some os8) k _ _ (Weak_keep 0 hm [2, 3, 5] [] _ _ rfl rfl rfl) ⟨_, rfl, rfl, h⟩ ?_
  clear h
  rintro k0 E H ⟨x1, rfl, rfl, h⟩
  cases k0 with
  | zero => cases (show (none : Option (Sum (Unit) (Bool))) = some _ from h)
  | succ k0 =>
   rw [spec_l06Less_l0] at h
   refine ACode_seq ?_
   refine kR ?_
   refine kM 1 rfl ?_
   refine AOps_q 7 _ rfl rfl rfl (QOp_lss _ _ _ _ _ _ _ rfl rfl rfl) ?_
   refine AOps_nil ?_
   refine kI h rfl (fun h _ => ?_) (fun h _ => ?_)
   ·refine ACode_skip ?_
    refine ACode_seq ?_
    refine ACode_block ?_
    refine ACode_seq (ACode_quiet mixed (by kernel_rfl) ?_)
    refine kQ 1 rfl ?_
    refine AQ_q 11 _ rfl rfl rfl (QOp_fieldAddr_pv _ _ _ _ _ 2 _ _ rfl Tryz.underlying26 rfl _ Tryz.sizeOf24 rfl rfl) ?_
    obtain ⟨hc3, h⟩ := guardO h
    refine AQ_q 12 _ rfl rfl rfl (QOp_indexAddrA_pv _ _ _ _ _ _ _ _ _ rfl Tryz.underlying24 Tryz.sizeOf5 hc3.1 hc3.2 rfl rfl) ?_
    refine AQ_q 13 _ rfl rfl rfl (QOp_load_pv _ _ _ _ _ rfl Tryz.isAgg5 rfl (colD_get _ _ (by omega))) ?_
    refine kQ 1 rfl ?_
    refine AQ_q 15 _ rfl rfl rfl (QOp_fieldAddr_pv _ _ _ _ _ 2 _ _ rfl Tryz.underlying26 rfl _ Tryz.sizeOf24 rfl rfl) ?_
    obtain ⟨hc4, h⟩ := guardO h
    refine AQ_q 16 _ rfl rfl rfl (QOp_indexAddrA_pv _ _ _ _ _ _ _ _ _ rfl Tryz.underlying24 Tryz.sizeOf5 hc4.1 hc4.2 rfl rfl) ?_
    refine AQ_q 17 _ rfl rfl rfl (QOp_load_pv _ _ _ _ _ rfl Tryz.isAgg5 rfl (colD_get _ _ (by omega))) ?_
    refine AQ_q 18 _ rfl rfl rfl (QOp_neq _ _ _ _ _ _ _ rfl rfl rfl) ?_
    refine AQ_nil ?_
    refine kI h rfl (fun h _ => ?_) (fun h _ => ?_)
    ·refine ACode_seq (ACode_quiet mixed (by kernel_rfl) ?_)
     refine kQ 1 rfl ?_
     refine AQ_q 20 _ rfl rfl rfl (QOp_fieldAddr_pv _ _ _ _ _ 2 _ _ rfl Tryz.underlying26 rfl _ Tryz.sizeOf24 rfl rfl) ?_
     obtain ⟨hc6, h⟩ := guardO h
     refine AQ_q 21 _ rfl rfl rfl (QOp_indexAddrA_pv _ _ _ _ _ _ _ _ _ rfl Tryz.underlying24 Tryz.sizeOf5 hc6.1 hc6.2 rfl rfl) ?_
     refine AQ_q 22 _ rfl rfl rfl (QOp_load_pv _ _ _ _ _ rfl Tryz.isAgg5 rfl (colD_get _ _ (by omega))) ?_
     refine kQ 1 rfl ?_
     refine AQ_q 24 _ rfl rfl rfl (QOp_fieldAddr_pv _ _ _ _ _ 2 _ _ rfl Tryz.underlying26 rfl _ Tryz.sizeOf24 rfl rfl) ?_
     obtain ⟨hc7, h⟩ := guardO h
     refine AQ_q 25 _ rfl rfl rfl (QOp_indexAddrA_pv _ _ _ _ _ _ _ _ _ rfl Tryz.underlying24 Tryz.sizeOf5 hc7.1 hc7.2 rfl rfl) ?_
     refine AQ_q 26 _ rfl rfl rfl (QOp_load_pv _ _ _ _ _ rfl Tryz.isAgg5 rfl (colD_get _ _ (by omega))) ?_
     refine AQ_q 27 _ rfl rfl rfl (QOp_lss _ _ _ _ _ _ _ rfl rfl rfl) ?_
     refine kQ 1 rfl ?_
     refine AQ_nil ?_
     refine ACode_ret ?_
     cases h
     have h := hks8
     cases h
     exact ⟨_, _, fun r a w h => ⟨r, h⟩, _, _, [], _, (.cons (ResV_tmp _ _ rfl) .nil), rfl, rfl, rfl, rfl, rfl⟩
    refine ACode_skip ?_
    refine (ACode_region ?_)
    refine kM 1 rfl ?_
    refine AOps_q 9 _ rfl rfl rfl (QOp_add _ _ _ _ _ _ _ rfl rfl rfl) ?_
    refine kN 1 rfl ?_
    exact ⟨k0, _, _, Nat.lt_succ_self _, Weak_keep 0 hm [2, 3, 5] [] _ _ rfl rfl rfl, _, rfl, rfl, h⟩
   refine ACode_exit ?_
   cases h
   exact ⟨_, rfl, Weak_keep 0 hm [] [] _ _ rfl rfl rfl⟩
 refine kR ?_
 refine kN 1 rfl ?_
 refine ACode_ret ?_
 cases h
 exact ⟨_, _, fun r a w h => ⟨r, h⟩, _, _, [], _, (.cons (ResV_tmp _ _ rfl) .nil), rfl, rfl, rfl, rfl, rfl⟩

def spec_LeastForm_l0 (k : Nat) (p0 : Col) (r4 : List (List Int)) : Nat → Int → Col → Option (Col)
 | 0, _, _ => none
 | k0 + 1, x5, x6 => (if decide (x5 < (r4.length : Int)) then ((if 0 ≤ x5 ∧ x5 < (r4.length : Int) then (spec_l01Renamed k p0 (r4.getD x5.toNat [])).bind fun r9 => (spec_l06Less k r9 x6).bind fun r10 => (if r10 then some r9 else some x6) else none) : Option (Col)).bind fun s12 => spec_LeastForm_l0 k p0 r4 k0 (w64 (x5 + 1)) s12 else some x6)
def spec_LeastForm (k : Nat) (p0 : Col) : Option (Col × Int) :=
 (spec_l01Is k p0).bind fun r1 => (if !r1 then some ((⟨0, 0, B136.zero⟩ : Col), 1) else (if decide (6 < p0.p) then some ((⟨0, 0, B136.zero⟩ : Col), 3) else (spec_l06Orders k ([] : List Int) p0.p).bind fun r4 => (spec_LeastForm_l0 k p0 r4 k 0 p0 : Option (Col)).bind fun s13 => some (s13, 0)))
theorem spec_LeastForm_ac (k : Nat) (p0 : Col) (r : Col × Int) (h : spec_LeastForm k p0 = some r) : AC Tryz.prog 7 [.d (.agg (colD p0))] [] (fun res H' => res = [.d (.agg (colD r.1)), iV r.2] ∧ H' = []) := by
 refine AC_of_body true Tryz.func7 rfl Tryz.ntmps7 (rvs := [.cell 2 26, .tmp 3]) rfl rfl (fun G hG => ?_)
 have hm : G.H.length = 0 := by rw [hG]; rfl
 have hz : zeroG G.H = true := by rw [hG]; rfl
 unfold spec_LeastForm at h
 refine kR ?_
 refine AOps_boxI 1 _ _ (.agg (colD p0)) (colD p0) rfl (colD_one _) rfl rfl rfl rfl rfl ?_
 refine AOps_alloc 2 _ _ (colD Col.zero) (zero_of Tryz.typeInfo26 rfl) (by rfl) rfl rfl rfl rfl ?_
 refine kN 1 rfl ?_
 refine ACode_seq ?_
 refine ACode_block ?_
 refine kR ?_
 refine AOps_q 9 _ rfl rfl rfl (QOp_loadN_pv _ _ _ _ _ _ rfl Tryz.isAgg26 Tryz.sizeOf26 rfl (colD_all _) (colD_length _)) ?_
 obtain ⟨r1, hr1, h⟩ := bindO h
 refine kC [] 10 (bV r1) [.box (colD Col.zero)] rfl Tryz.call32 rfl rfl (spec_l01Is_ac k p0 _ hr1) rfl ?_
 refine AOps_q 11 _ rfl rfl rfl (QOp_not _ _ _ rfl rfl) ?_
 refine kN 1 rfl ?_
 refine kI h rfl (fun h _ => ?_) (fun h _ => ?_)
 ·refine kR ?_
  refine AOps_q 12 _ rfl rfl rfl (QOp_build _ _ [] [] [] _ (colD Col.zero) (colD (⟨0, 0, B136.zero⟩ : Col)) [(0, 1), (1, 1), (2, 136)] rfl rfl Tryz.underlying26 (zero_of Tryz.typeInfo26 rfl) (fun w => by simp [Tryz.sizeOf2, Tryz.sizeOf2, Tryz.sizeOf24]) rfl (by rfl) (by rfl) (fun _ h => nomatch h)) ?_
  refine AOps_store _ _ _ _ _ _ (colD _) _ _ rfl rfl rfl rfl rfl rfl rfl (colD_one _) (by rw [colD_length]; exact Tryz.sizeOf26) (by rw [colD_length, colD_length]; decide) (colD_whole _ _) ?_
  refine kN 1 rfl ?_
  refine ACode_ret ?_
  cases h
  exact ⟨_, _, fun r a w h => ⟨r, h⟩, _, _, [], _, (.cons (ResV_agg _ _ _ _ _ _ Tryz.isAgg26 Tryz.sizeOf26 rfl rfl (colD_take _) (colD_length _)) (.cons (ResV_tmp _ _ rfl) .nil)), rfl, rfl, rfl, rfl, rfl⟩
 refine kR ?_
 refine AOps_q 14 _ rfl rfl rfl (QOp_fieldAddr_pv _ _ _ _ _ 0 _ _ rfl Tryz.underlying26 rfl _ Tryz.sizeOf2 rfl rfl) ?_
 refine AOps_q 15 _ rfl rfl rfl (QOp_load_pv _ _ _ _ _ rfl Tryz.isAgg2 rfl rfl) ?_
 refine AOps_q 16 _ rfl rfl rfl (QOp_gtr _ _ _ _ _ _ _ rfl rfl rfl) ?_
 refine kN 1 rfl ?_
 refine kI h rfl (fun h _ => ?_) (fun h _ => ?_)
 ·refine kR ?_
  refine AOps_q 17 _ rfl rfl rfl (QOp_build _ _ [] [] [] _ (colD Col.zero) (colD (⟨0, 0, B136.zero⟩ : Col)) [(0, 1), (1, 1), (2, 136)] rfl rfl Tryz.underlying26 (zero_of Tryz.typeInfo26 rfl) (fun w => by simp [Tryz.sizeOf2, Tryz.sizeOf2, Tryz.sizeOf24]) rfl (by rfl) (by rfl) (fun _ h => nomatch h)) ?_
  refine AOps_store _ _ _ _ _ _ (colD _) _ _ rfl rfl rfl rfl rfl rfl rfl (colD_one _) (by rw [colD_length]; exact Tryz.sizeOf26) (by rw [colD_length, colD_length]; decide) (colD_whole _ _) ?_
  refine kN 1 rfl ?_
  refine ACode_ret ?_
  cases h
  exact ⟨_, _, fun r a w h => ⟨r, h⟩, _, _, [], _, (.cons (ResV_agg _ _ _ _ _ _ Tryz.isAgg26 Tryz.sizeOf26 rfl rfl (colD_take _) (colD_length _)) (.cons (ResV_tmp _ _ rfl) .nil)), rfl, rfl, rfl, rfl, rfl⟩
 refine ACode_skip ?_
 obtain ⟨r4, hr4, h⟩ := bindO h
 refine ACode_seq (ACode_reg [(1, .d (.pv (colD p0) 0)), (2, .ptr 0 0), (4, .ptr 1 0), (5, .d (.sl none (rowsD r4)))] [.box (colD Col.zero), .box (colD p0)] ?_ ?_)
 ·refine ACode_anyU mixed ?_
  refine AU_cut 2 #[true, true, true, true, true, true, false, false] [(1, .d (.pv (colD p0) 0)), (2, .ptr 0 0), (4, .ptr 1 0), (18, .d (.agg (colD p0))), (22, .d (.sl none (rowsD r4)))] [.box (colD Col.zero), .box (colD Col.zero)] ?_ (fun hS0 => ?_)
  ·refine AU_one 6 (by kernel_rfl) rfl rfl ?_
   refine AOps_store _ _ _ _ _ _ (colD _) _ _ rfl rfl rfl rfl rfl rfl rfl (colD_one _) (by rw [colD_length]; exact Tryz.sizeOf26) (by rw [colD_length, colD_length]; decide) (colD_whole _ _) ?_
   refine AOps_nil ?_
   refine AU_u 7 5 _ rfl (by kernel_rfl) rfl rfl rfl (UOp_assign _ _ rfl rfl) ?_
   refine AU_done (by kernel_rfl) ?_
   exact ⟨rfl, Weak_keep 0 hm [1, 2, 4, 5] [0, 1] _ _ rfl rfl rfl⟩
  refine AU_cut 3 #[true, true, true, true, true, false, false, false] [(1, .d (.pv (colD p0) 0)), (2, .ptr 0 0), (18, .d (.agg (colD p0))), (22, .d (.sl none (rowsD r4)))] [.box (colD Col.zero)] ?_ (fun hS1 => ?_)
  ·refine AU_one 5 (by kernel_rfl) rfl rfl ?_
   refine AOps_alloc 4 _ _ (colD Col.zero) (zero_of Tryz.typeInfo26 rfl) (by rfl) rfl rfl rfl rfl ?_
   refine AOps_nil ?_
   exact AU_to (by kernel_rfl) hS0 (Weak_keep 0 hm [1, 2, 4, 18, 22] [0, 1] _ _ rfl rfl rfl)
  refine AU_cut 3 #[true, true, true, true, false, true, false, false] [(1, .d (.pv (colD p0) 0)), (2, .ptr 0 0), (4, .ptr 1 0), (18, .d (.agg (colD p0))), (19, .vec 2 0), (21, iV p0.p)] [.box (colD Col.zero), .box (colD Col.zero), .vec 0 (intsD ([] : List Int))] ?_ (fun hS2 => ?_)
  ·refine AU_one 4 (by kernel_rfl) rfl rfl ?_
   refine AOps_freezeL [19] 2 0 _ (allc (rfl) (fun _ h => nomatch h)) rfl ?_
   refine kC [] 22 (.d (.sl none (rowsD r4))) [.box (colD Col.zero), .box (colD Col.zero), .gone] rfl Tryz.call33 rfl rfl (spec_l06Orders_ac k ([] : List Int) p0.p _ hr4) rfl ?_
   refine AOps_nil ?_
   exact AU_to (by kernel_rfl) hS0 (Weak_keep 0 hm [1, 2, 4, 18, 22] [0, 1] _ _ rfl rfl rfl)
  refine AU_cut 3 #[false, true, true, true, true, true, false, false] [(1, .d (.pv (colD p0) 0)), (2, .ptr 0 0), (4, .ptr 1 0), (22, .d (.sl none (rowsD r4)))] [.box (colD Col.zero), .box (colD Col.zero)] ?_ (fun hS3 => ?_)
  ·refine AU_one 0 (by kernel_rfl) rfl rfl ?_
   refine AOps_q 18 _ rfl rfl rfl (QOp_loadN_pv _ _ _ _ _ _ rfl Tryz.isAgg26 Tryz.sizeOf26 rfl (colD_all _) (colD_length _)) ?_
   refine AOps_nil ?_
   exact AU_to (by kernel_rfl) hS0 (Weak_keep 0 hm [1, 2, 4, 18, 22] [0, 1] _ _ rfl rfl rfl)
  refine AU_cut 4 #[true, true, true, true, false, false, false, false] [(1, .d (.pv (colD p0) 0)), (2, .ptr 0 0), (18, .d (.agg (colD p0))), (19, .vec 1 0), (21, iV p0.p)] [.box (colD Col.zero), .vec 0 (intsD ([] : List Int))] ?_ (fun hS4 => ?_)
  ·refine AU_all [4, 5] (by kernel_rfl) rfl (allc ?_ (allc ?_ (fun _ h => nomatch h)))
   ·refine US_of 4 rfl rfl ?_
    refine AOps_freezeL [19] 1 0 _ (allc (rfl) (fun _ h => nomatch h)) rfl ?_
    refine kC [] 22 (.d (.sl none (rowsD r4))) [.box (colD Col.zero), .gone] rfl Tryz.call33 rfl rfl (spec_l06Orders_ac k ([] : List Int) p0.p _ hr4) rfl ?_
    refine AOps_nil ?_
    exact AU_to (by kernel_rfl) hS1 (Weak_keep 0 hm [1, 2, 18, 22] [0] _ _ rfl rfl rfl)
   refine US_of 5 rfl rfl ?_
   refine AOps_alloc 4 _ _ (colD Col.zero) (zero_of Tryz.typeInfo26 rfl) (by rfl) rfl rfl rfl rfl ?_
   refine AOps_nil ?_
   exact AU_to (by kernel_rfl) hS2 (Weak_keep 0 hm [1, 2, 4, 18, 19, 21] [0, 2, 1] _ _ rfl rfl rfl)
  refine AU_cut 4 #[true, true, true, false, false, true, false, false] [(1, .d (.pv (colD p0) 0)), (2, .ptr 0 0), (4, .ptr 1 0), (18, .d (.agg (colD p0))), (19, .vec 2 0), (20, .d (.pv (colD p0) 0))] [.box (colD Col.zero), .box (colD Col.zero), .vec 0 (intsD ([] : List Int))] ?_ (fun hS5 => ?_)
  ·refine AU_one 3 (by kernel_rfl) rfl rfl ?_
   refine AOps_q 21 _ rfl rfl rfl (QOp_load_pv _ _ _ _ _ rfl Tryz.isAgg2 rfl rfl) ?_
   refine AOps_nil ?_
   exact AU_to (by kernel_rfl) hS2 (Weak_keep 0 hm [1, 2, 4, 18, 19, 21] [0, 1, 2] _ _ rfl rfl rfl)
  refine AU_cut 4 #[true, false, true, true, false, true, false, false] [(1, .d (.pv (colD p0) 0)), (2, .ptr 0 0), (4, .ptr 1 0), (18, .d (.agg (colD p0))), (21, iV p0.p)] [.box (colD Col.zero), .box (colD Col.zero)] ?_ (fun hS6 => ?_)
  ·refine AU_one 1 (by kernel_rfl) rfl rfl ?_
   refine AOps_buildSlice 19 _ _ _ [] (intsD ([] : List Int)) _ rfl rfl rfl rfl rfl (by decide) Tryz.underlying40 Tryz.sizeOf2 (zero_of Tryz.typeInfo2 rfl) rfl rfl (intsD_one _) ?_
   refine AOps_nil ?_
   exact AU_to (by kernel_rfl) hS2 (Weak_keep 0 hm [1, 2, 4, 18, 19, 21] [0, 1, 2] _ _ rfl rfl rfl)
  refine AU_cut 4 #[false, true, true, true, false, true, false, false] [(1, .d (.pv (colD p0) 0)), (2, .ptr 0 0), (4, .ptr 1 0), (19, .vec 2 0), (21, iV p0.p)] [.box (colD Col.zero), .box (colD Col.zero), .vec 0 (intsD ([] : List Int))] ?_ (fun hS7 => ?_)
  ·refine AU_all [0, 4] (by kernel_rfl) rfl (allc ?_ (allc ?_ (fun _ h => nomatch h)))
   ·refine US_of 0 rfl rfl ?_
    refine AOps_q 18 _ rfl rfl rfl (QOp_loadN_pv _ _ _ _ _ _ rfl Tryz.isAgg26 Tryz.sizeOf26 rfl (colD_all _) (colD_length _)) ?_
    refine AOps_nil ?_
    exact AU_to (by kernel_rfl) hS2 (Weak_keep 0 hm [1, 2, 4, 18, 19, 21] [0, 1, 2] _ _ rfl rfl rfl)
   refine US_of 4 rfl rfl ?_
   refine AOps_freezeL [19] 2 0 _ (allc (rfl) (fun _ h => nomatch h)) rfl ?_
   refine kC [] 22 (.d (.sl none (rowsD r4))) [.box (colD Col.zero), .box (colD Col.zero), .gone] rfl Tryz.call33 rfl rfl (spec_l06Orders_ac k ([] : List Int) p0.p _ hr4) rfl ?_
   refine AOps_nil ?_
   exact AU_to (by kernel_rfl) hS3 (Weak_keep 0 hm [1, 2, 4, 22] [0, 1] _ _ rfl rfl rfl)
  refine AU_cut 5 #[true, true, true, false, false, false, false, false] [(1, .d (.pv (colD p0) 0)), (2, .ptr 0 0), (18, .d (.agg (colD p0))), (19, .vec 1 0), (20, .d (.pv (colD p0) 0))] [.box (colD Col.zero), .vec 0 (intsD ([] : List Int))] ?_ (fun hS8 => ?_)
  ·refine AU_all [3, 5] (by kernel_rfl) rfl (allc ?_ (allc ?_ (fun _ h => nomatch h)))
   ·refine US_of 3 rfl rfl ?_
    refine AOps_q 21 _ rfl rfl rfl (QOp_load_pv _ _ _ _ _ rfl Tryz.isAgg2 rfl rfl) ?_
    refine AOps_nil ?_
    exact AU_to (by kernel_rfl) hS4 (Weak_keep 0 hm [1, 2, 18, 19, 21] [0, 1] _ _ rfl rfl rfl)
   refine US_of 5 rfl rfl ?_
   refine AOps_alloc 4 _ _ (colD Col.zero) (zero_of Tryz.typeInfo26 rfl) (by rfl) rfl rfl rfl rfl ?_
   refine AOps_nil ?_
   exact AU_to (by kernel_rfl) hS5 (Weak_keep 0 hm [1, 2, 4, 18, 19, 20] [0, 2, 1] _ _ rfl rfl rfl)
  refine AU_cut 5 #[true, false, true, true, false, false, false, false] [(1, .d (.pv (colD p0) 0)), (2, .ptr 0 0), (18, .d (.agg (colD p0))), (21, iV p0.p)] [.box (colD Col.zero)] ?_ (fun hS9 => ?_)
  ·refine AU_all [1, 5] (by kernel_rfl) rfl (allc ?_ (allc ?_ (fun _ h => nomatch h)))
   ·refine US_of 1 rfl rfl ?_
    refine AOps_buildSlice 19 _ _ _ [] (intsD ([] : List Int)) _ rfl rfl rfl rfl rfl (by decide) Tryz.underlying40 Tryz.sizeOf2 (zero_of Tryz.typeInfo2 rfl) rfl rfl (intsD_one _) ?_
    refine AOps_nil ?_
    exact AU_to (by kernel_rfl) hS4 (Weak_keep 0 hm [1, 2, 18, 19, 21] [0, 1] _ _ rfl rfl rfl)
   refine US_of 5 rfl rfl ?_
   refine AOps_alloc 4 _ _ (colD Col.zero) (zero_of Tryz.typeInfo26 rfl) (by rfl) rfl rfl rfl rfl ?_
   refine AOps_nil ?_
   exact AU_to (by kernel_rfl) hS6 (Weak_keep 0 hm [1, 2, 4, 18, 21] [0, 1] _ _ rfl rfl rfl)
  refine AU_cut 5 #[true, false, true, false, false, true, false, false] [(1, .d (.pv (colD p0) 0)), (2, .ptr 0 0), (4, .ptr 1 0), (18, .d (.agg (colD p0))), (20, .d (.pv (colD p0) 0))] [.box (colD Col.zero), .box (colD Col.zero)] ?_ (fun hS10 => ?_)
  ·refine AU_all [1, 3] (by kernel_rfl) rfl (allc ?_ (allc ?_ (fun _ h => nomatch h)))
   ·refine US_of 1 rfl rfl ?_
    refine AOps_buildSlice 19 _ _ _ [] (intsD ([] : List Int)) _ rfl rfl rfl rfl rfl (by decide) Tryz.underlying40 Tryz.sizeOf2 (zero_of Tryz.typeInfo2 rfl) rfl rfl (intsD_one _) ?_
    refine AOps_nil ?_
    exact AU_to (by kernel_rfl) hS5 (Weak_keep 0 hm [1, 2, 4, 18, 19, 20] [0, 1, 2] _ _ rfl rfl rfl)
   refine US_of 3 rfl rfl ?_
   refine AOps_q 21 _ rfl rfl rfl (QOp_load_pv _ _ _ _ _ rfl Tryz.isAgg2 rfl rfl) ?_
   refine AOps_nil ?_
   exact AU_to (by kernel_rfl) hS6 (Weak_keep 0 hm [1, 2, 4, 18, 21] [0, 1] _ _ rfl rfl rfl)
  refine AU_cut 5 #[false, true, true, true, false, false, false, false] [(1, .d (.pv (colD p0) 0)), (2, .ptr 0 0), (19, .vec 1 0), (21, iV p0.p)] [.box (colD Col.zero), .vec 0 (intsD ([] : List Int))] ?_ (fun hS11 => ?_)
  ·refine AU_all [0, 4, 5] (by kernel_rfl) rfl (allc ?_ (allc ?_ (allc ?_ (fun _ h => nomatch h))))
   ·refine US_of 0 rfl rfl ?_
    refine AOps_q 18 _ rfl rfl rfl (QOp_loadN_pv _ _ _ _ _ _ rfl Tryz.isAgg26 Tryz.sizeOf26 rfl (colD_all _) (colD_length _)) ?_
    refine AOps_nil ?_
    exact AU_to (by kernel_rfl) hS4 (Weak_keep 0 hm [1, 2, 18, 19, 21] [0, 1] _ _ rfl rfl rfl)
   ·refine US_of 4 rfl rfl ?_
    refine AOps_freezeL [19] 1 0 _ (allc (rfl) (fun _ h => nomatch h)) rfl ?_
    refine kC [] 22 (.d (.sl none (rowsD r4))) [.box (colD Col.zero), .gone] rfl Tryz.call33 rfl rfl (spec_l06Orders_ac k ([] : List Int) p0.p _ hr4) rfl ?_
    refine AOps_nil ?_
    refine AU_all [0, 5] (by kernel_rfl) rfl (allc ?_ (allc ?_ (fun _ h => nomatch h)))
    ·refine US_of 0 rfl rfl ?_
     refine AOps_q 18 _ rfl rfl rfl (QOp_loadN_pv _ _ _ _ _ _ rfl Tryz.isAgg26 Tryz.sizeOf26 rfl (colD_all _) (colD_length _)) ?_
     refine AOps_nil ?_
     exact AU_to (by kernel_rfl) hS1 (Weak_keep 0 hm [1, 2, 18, 22] [0] _ _ rfl rfl rfl)
    refine US_of 5 rfl rfl ?_
    refine AOps_alloc 4 _ _ (colD Col.zero) (zero_of Tryz.typeInfo26 rfl) (by rfl) rfl rfl rfl rfl ?_
    refine AOps_nil ?_
    exact AU_to (by kernel_rfl) hS3 (Weak_keep 0 hm [1, 2, 4, 22] [0, 2] _ _ rfl rfl rfl)
   refine US_of 5 rfl rfl ?_
   refine AOps_alloc 4 _ _ (colD Col.zero) (zero_of Tryz.typeInfo26 rfl) (by rfl) rfl rfl rfl rfl ?_
   refine AOps_nil ?_
   exact AU_to (by kernel_rfl) hS7 (Weak_keep 0 hm [1, 2, 4, 19, 21] [0, 2, 1] _ _ rfl rfl rfl)
  refine AU_cut 5 #[false, true, true, false, false, true, false, false] [(1, .d (.pv (colD p0) 0)), (2, .ptr 0 0), (4, .ptr 1 0), (19, .vec 2 0), (20, .d (.pv (colD p0) 0))] [.box (colD Col.zero), .box (colD Col.zero), .vec 0 (intsD ([] : List Int))] ?_ (fun hS12 => ?_)
  ·refine AU_all [0, 3] (by kernel_rfl) rfl (allc ?_ (allc ?_ (fun _ h => nomatch h)))
   ·refine US_of 0 rfl rfl ?_
    refine AOps_q 18 _ rfl rfl rfl (QOp_loadN_pv _ _ _ _ _ _ rfl Tryz.isAgg26 Tryz.sizeOf26 rfl (colD_all _) (colD_length _)) ?_
    refine AOps_nil ?_
    exact AU_to (by kernel_rfl) hS5 (Weak_keep 0 hm [1, 2, 4, 18, 19, 20] [0, 1, 2] _ _ rfl rfl rfl)
   refine US_of 3 rfl rfl ?_
   refine AOps_q 21 _ rfl rfl rfl (QOp_load_pv _ _ _ _ _ rfl Tryz.isAgg2 rfl rfl) ?_
   refine AOps_nil ?_
   exact AU_to (by kernel_rfl) hS7 (Weak_keep 0 hm [1, 2, 4, 19, 21] [0, 1, 2] _ _ rfl rfl rfl)
  refine AU_cut 5 #[false, false, true, true, false, true, false, false] [(1, .d (.pv (colD p0) 0)), (2, .ptr 0 0), (4, .ptr 1 0), (21, iV p0.p)] [.box (colD Col.zero), .box (colD Col.zero)] ?_ (fun hS13 => ?_)
  ·refine AU_all [0, 1] (by kernel_rfl) rfl (allc ?_ (allc ?_ (fun _ h => nomatch h)))
   ·refine US_of 0 rfl rfl ?_
    refine AOps_q 18 _ rfl rfl rfl (QOp_loadN_pv _ _ _ _ _ _ rfl Tryz.isAgg26 Tryz.sizeOf26 rfl (colD_all _) (colD_length _)) ?_
    refine AOps_nil ?_
    exact AU_to (by kernel_rfl) hS6 (Weak_keep 0 hm [1, 2, 4, 18, 21] [0, 1] _ _ rfl rfl rfl)
   refine US_of 1 rfl rfl ?_
   refine AOps_buildSlice 19 _ _ _ [] (intsD ([] : List Int)) _ rfl rfl rfl rfl rfl (by decide) Tryz.underlying40 Tryz.sizeOf2 (zero_of Tryz.typeInfo2 rfl) rfl rfl (intsD_one _) ?_
   refine AOps_nil ?_
   exact AU_to (by kernel_rfl) hS7 (Weak_keep 0 hm [1, 2, 4, 19, 21] [0, 1, 2] _ _ rfl rfl rfl)
  refine AU_u 2 20 _ rfl (by kernel_rfl) rfl rfl rfl (UOp_fieldAddr_pv _ _ _ _ _ 0 _ _ rfl Tryz.underlying26 rfl _ Tryz.sizeOf2 rfl rfl) ?_
  refine AU_all [0, 1, 3, 5] (by kernel_rfl) rfl (allc ?_ (allc ?_ (allc ?_ (allc ?_ (fun _ h => nomatch h)))))
  ·refine US_of 0 rfl rfl ?_
   refine AOps_q 18 _ rfl rfl rfl (QOp_loadN_pv _ _ _ _ _ _ rfl Tryz.isAgg26 Tryz.sizeOf26 rfl (colD_all _) (colD_length _)) ?_
   refine AOps_nil ?_
   refine AU_all [1, 3, 5] (by kernel_rfl) rfl (allc ?_ (allc ?_ (allc ?_ (fun _ h => nomatch h))))
   ·refine US_of 1 rfl rfl ?_
    refine AOps_buildSlice 19 _ _ _ [] (intsD ([] : List Int)) _ rfl rfl rfl rfl rfl (by decide) Tryz.underlying40 Tryz.sizeOf2 (zero_of Tryz.typeInfo2 rfl) rfl rfl (intsD_one _) ?_
    refine AOps_nil ?_
    exact AU_to (by kernel_rfl) hS8 (Weak_keep 0 hm [1, 2, 18, 19, 20] [0, 1] _ _ rfl rfl rfl)
   ·refine US_of 3 rfl rfl ?_
    refine AOps_q 21 _ rfl rfl rfl (QOp_load_pv _ _ _ _ _ rfl Tryz.isAgg2 rfl rfl) ?_
    refine AOps_nil ?_
    exact AU_to (by kernel_rfl) hS9 (Weak_keep 0 hm [1, 2, 18, 21] [0] _ _ rfl rfl rfl)
   refine US_of 5 rfl rfl ?_
   refine AOps_alloc 4 _ _ (colD Col.zero) (zero_of Tryz.typeInfo26 rfl) (by rfl) rfl rfl rfl rfl ?_
   refine AOps_nil ?_
   exact AU_to (by kernel_rfl) hS10 (Weak_keep 0 hm [1, 2, 4, 18, 20] [0, 1] _ _ rfl rfl rfl)
  ·refine US_of 1 rfl rfl ?_
   refine AOps_buildSlice 19 _ _ _ [] (intsD ([] : List Int)) _ rfl rfl rfl rfl rfl (by decide) Tryz.underlying40 Tryz.sizeOf2 (zero_of Tryz.typeInfo2 rfl) rfl rfl (intsD_one _) ?_
   refine AOps_nil ?_
   refine AU_all [0, 3, 5] (by kernel_rfl) rfl (allc ?_ (allc ?_ (allc ?_ (fun _ h => nomatch h))))
   ·refine US_of 0 rfl rfl ?_
    refine AOps_q 18 _ rfl rfl rfl (QOp_loadN_pv _ _ _ _ _ _ rfl Tryz.isAgg26 Tryz.sizeOf26 rfl (colD_all _) (colD_length _)) ?_
    refine AOps_nil ?_
    exact AU_to (by kernel_rfl) hS8 (Weak_keep 0 hm [1, 2, 18, 19, 20] [0, 1] _ _ rfl rfl rfl)
   ·refine US_of 3 rfl rfl ?_
    refine AOps_q 21 _ rfl rfl rfl (QOp_load_pv _ _ _ _ _ rfl Tryz.isAgg2 rfl rfl) ?_
    refine AOps_nil ?_
    exact AU_to (by kernel_rfl) hS11 (Weak_keep 0 hm [1, 2, 19, 21] [0, 1] _ _ rfl rfl rfl)
   refine US_of 5 rfl rfl ?_
   refine AOps_alloc 4 _ _ (colD Col.zero) (zero_of Tryz.typeInfo26 rfl) (by rfl) rfl rfl rfl rfl ?_
   refine AOps_nil ?_
   exact AU_to (by kernel_rfl) hS12 (Weak_keep 0 hm [1, 2, 4, 19, 20] [0, 2, 1] _ _ rfl rfl rfl)
  ·refine US_of 3 rfl rfl ?_
   refine AOps_q 21 _ rfl rfl rfl (QOp_load_pv _ _ _ _ _ rfl Tryz.isAgg2 rfl rfl) ?_
   refine AOps_nil ?_
   refine AU_all [0, 1, 5] (by kernel_rfl) rfl (allc ?_ (allc ?_ (allc ?_ (fun _ h => nomatch h))))
   ·refine US_of 0 rfl rfl ?_
    refine AOps_q 18 _ rfl rfl rfl (QOp_loadN_pv _ _ _ _ _ _ rfl Tryz.isAgg26 Tryz.sizeOf26 rfl (colD_all _) (colD_length _)) ?_
    refine AOps_nil ?_
    exact AU_to (by kernel_rfl) hS9 (Weak_keep 0 hm [1, 2, 18, 21] [0] _ _ rfl rfl rfl)
   ·refine US_of 1 rfl rfl ?_
    refine AOps_buildSlice 19 _ _ _ [] (intsD ([] : List Int)) _ rfl rfl rfl rfl rfl (by decide) Tryz.underlying40 Tryz.sizeOf2 (zero_of Tryz.typeInfo2 rfl) rfl rfl (intsD_one _) ?_
    refine AOps_nil ?_
    exact AU_to (by kernel_rfl) hS11 (Weak_keep 0 hm [1, 2, 19, 21] [0, 1] _ _ rfl rfl rfl)
   refine US_of 5 rfl rfl ?_
   refine AOps_alloc 4 _ _ (colD Col.zero) (zero_of Tryz.typeInfo26 rfl) (by rfl) rfl rfl rfl rfl ?_
   refine AOps_nil ?_
   exact AU_to (by kernel_rfl) hS13 (Weak_keep 0 hm [1, 2, 4, 21] [0, 1] _ _ rfl rfl rfl)
  refine US_of 5 rfl rfl ?_
  refine AOps_alloc 4 _ _ (colD Col.zero) (zero_of Tryz.typeInfo26 rfl) (by rfl) rfl rfl rfl rfl ?_
  refine AOps_nil ?_
  refine AU_all [0, 1, 3] (by kernel_rfl) rfl (allc ?_ (allc ?_ (allc ?_ (fun _ h => nomatch h))))
  ·refine US_of 0 rfl rfl ?_
   refine AOps_q 18 _ rfl rfl rfl (QOp_loadN_pv _ _ _ _ _ _ rfl Tryz.isAgg26 Tryz.sizeOf26 rfl (colD_all _) (colD_length _)) ?_
   refine AOps_nil ?_
   exact AU_to (by kernel_rfl) hS10 (Weak_keep 0 hm [1, 2, 4, 18, 20] [0, 1] _ _ rfl rfl rfl)
  ·refine US_of 1 rfl rfl ?_
   refine AOps_buildSlice 19 _ _ _ [] (intsD ([] : List Int)) _ rfl rfl rfl rfl rfl (by decide) Tryz.underlying40 Tryz.sizeOf2 (zero_of Tryz.typeInfo2 rfl) rfl rfl (intsD_one _) ?_
   refine AOps_nil ?_
   exact AU_to (by kernel_rfl) hS12 (Weak_keep 0 hm [1, 2, 4, 19, 20] [0, 1, 2] _ _ rfl rfl rfl)
  refine US_of 3 rfl rfl ?_
  refine AOps_q 21 _ rfl rfl rfl (QOp_load_pv _ _ _ _ _ rfl Tryz.isAgg2 rfl rfl) ?_
  refine AOps_nil ?_
  exact AU_to (by kernel_rfl) hS13 (Weak_keep 0 hm [1, 2, 4, 21] [0, 1] _ _ rfl rfl rfl)
 refine kB (fun s13 => [(2, .ptr 0 0), (4, .ptr 1 0)]) (fun s13 => [.box (colD Col.zero), .box (colD s13)]) h (fun s13 h => ?_) (fun s13 h => ?_)
 ·refine kR ?_
  refine kN 1 rfl ?_
  refine ACode_block ?_
  refine ACode_loopW (fun k0 E H => ∃ (x5 : Int) (x6 : Col), E = [(1, .d (.pv (colD p0) 0)), (2, .ptr 0 0), (4, .ptr 1 0), (5, .d (.sl none (rowsD r4))), (6, iV x5)] ∧ H = [.box (colD Col.zero), .box (colD x6)] ∧ spec_LeastForm_l0 k p0 r4 k0 x5 x6 = some s13) k _ _ (Weak_keep 0 hm [1, 2, 4, 5, 6] [0, 1] _ _ rfl rfl rfl) ⟨_, _, rfl, rfl, h⟩ ?_
  clear h
  rintro k0 E H ⟨x5, x6, rfl, rfl, h⟩
  cases k0 with
  | zero => cases (show (none : Option (Col)) = some _ from h)
  | succ k0 =>
   rw [spec_LeastForm_l0] at h
   refine ACode_seq ?_
   refine kR ?_
   refine kM 2 rfl ?_
   refine AOps_q 25 _ rfl rfl rfl (QOp_len_sl _ _ _ _ _ _ _ (rowsD_length _) rfl rfl rfl rfl Tryz.underlying30 rfl) ?_
   refine AOps_q 26 _ rfl rfl rfl (QOp_lss _ _ _ _ _ _ _ rfl rfl rfl) ?_
   refine AOps_nil ?_
   refine kI h rfl (fun h _ => ?_) (fun h _ => ?_)
   ·refine ACode_skip ?_
    refine kB (fun s12 => [(1, .d (.pv (colD p0) 0)), (2, .ptr 0 0), (4, .ptr 1 0), (5, .d (.sl none (rowsD r4))), (6, iV x5)]) (fun s12 => [.box (colD Col.zero), .box (colD s12)]) h (fun s12 h => ?_) (fun s12 h => ?_)
    ·refine ACode_block ?_
     obtain ⟨hc8, h⟩ := guardO h
     obtain ⟨r9, hr9, h⟩ := bindO h
     refine ACode_seqJ (fun E' H' => Weak 40 G E' H' [(1, .d (.pv (colD p0) 0)), (2, .ptr 0 0), (4, .ptr 1 0), (5, .d (.sl none (rowsD r4))), (6, iV x5), (7, .ptr 2 0)] [.box (colD Col.zero), .box (colD x6), .box (colD r9)]) ?_ ?_
     ·refine ACode_anyLast (l := [_, _, _, _, _, _, _]) mixed (by kernel_rfl) ?_
      refine AAny_q 0 29 _ rfl (by kernel_rfl) rfl rfl rfl (QOp_loadN_pv _ _ _ _ _ _ rfl Tryz.isAgg26 Tryz.sizeOf26 rfl (colD_all _) (colD_length _)) ?_
      refine AAny_q 1 30 _ rfl (by kernel_rfl) rfl rfl rfl (QOp_move _ _ rfl rfl) ?_
      refine AAny_q 2 31 _ rfl (by kernel_rfl) rfl rfl rfl (QOp_move _ _ rfl rfl) ?_
      refine AAny_q 3 32 _ rfl (by kernel_rfl) rfl rfl rfl (QOp_indexAddr_sl _ _ _ _ _ _ _ _ rfl Tryz.underlying30 Tryz.sizeOf40 hc8.1 (by rw [rowsD_length]; exact hc8.2) rfl rfl) ?_
      refine AAny_q 4 33 _ rfl (by kernel_rfl) rfl rfl rfl (QOp_load_pv _ _ _ _ _ rfl Tryz.isAgg40 rfl (rowsD_get _ _ [] (by omega))) ?_
      refine AAny_all [5, 6] (by kernel_rfl) rfl (allc ?_ (allc ?_ (fun _ h => nomatch h)))
      ·refine AStep_callN 5 34 _ _ _ _ _ _ _ _ _ rfl rfl rfl rfl rfl rfl rfl rfl Tryz.call34 rfl rfl rfl (spec_l01Renamed_ac k p0 (r4.getD x5.toNat []) _ hr9) ?_
       rintro _ _ ⟨rfl, rfl⟩
       refine ⟨(fun _ h => nomatch h), (allc (trivial) (fun _ h => nomatch h)), AAny_as 34 (v' := .d (.agg (colD r9))) (H' := [.box (colD Col.zero), .box (colD x6)]) rfl rfl ?_⟩
       refine AAny_all [6] (by kernel_rfl) rfl (allc ?_ (fun _ h => nomatch h))
       refine AStep_of 6 rfl rfl (Bl_alloc _ _ (zero_of Tryz.typeInfo26 rfl) rfl) ?_
       refine AOps_alloc 7 _ _ (colD Col.zero) (zero_of Tryz.typeInfo26 rfl) (by rfl) rfl rfl rfl rfl ?_
       refine AOps_nil ?_
       refine AAny_done (by kernel_rfl) ?_
       refine AOps_store _ _ _ _ _ _ (colD _) _ _ rfl rfl rfl rfl rfl rfl rfl (colD_one _) (by rw [colD_length]; exact Tryz.sizeOf26) (by rw [colD_length, colD_length]; decide) (colD_whole _ _) ?_
       refine AOps_nil ?_
       exact Weak_keep 0 hm [1, 2, 4, 5, 6, 7] [0, 1, 2] _ _ rfl rfl rfl
      refine AStep_of 6 rfl rfl (Bl_alloc _ _ (zero_of Tryz.typeInfo26 rfl) rfl) ?_
      refine AOps_alloc 7 _ _ (colD Col.zero) (zero_of Tryz.typeInfo26 rfl) (by rfl) rfl rfl rfl rfl ?_
      refine AOps_nil ?_
      refine AAny_all [5] (by kernel_rfl) rfl (allc ?_ (fun _ h => nomatch h))
      refine AStep_callN 5 34 _ _ _ _ _ _ _ _ _ rfl rfl rfl rfl rfl rfl rfl rfl Tryz.call34 rfl rfl rfl (spec_l01Renamed_ac k p0 (r4.getD x5.toNat []) _ hr9) ?_
      rintro _ _ ⟨rfl, rfl⟩
      refine ⟨(fun _ h => nomatch h), (allc (trivial) (fun _ h => nomatch h)), AAny_as 34 (v' := .d (.agg (colD r9))) (H' := [.box (colD Col.zero), .box (colD x6), .box (colD Col.zero)]) rfl rfl ?_⟩
      refine AAny_done (by kernel_rfl) ?_
      refine AOps_store _ _ _ _ _ _ (colD _) _ _ rfl rfl rfl rfl rfl rfl rfl (colD_one _) (by rw [colD_length]; exact Tryz.sizeOf26) (by rw [colD_length, colD_length]; decide) (colD_whole _ _) ?_
      refine AOps_nil ?_
      exact Weak_keep 0 hm [1, 2, 4, 5, 6, 7] [0, 1, 2] _ _ rfl rfl rfl
     intro E' H' hw
     refine ACode_weak hw ?_
     refine kR ?_
     refine AOps_q 35 _ rfl rfl rfl (QOp_loadN_ptr _ _ _ _ _ _ _ rfl Tryz.isAgg26 Tryz.sizeOf26 rfl rfl (colD_all _) (colD_length _)) ?_
     refine AOps_q 36 _ rfl rfl rfl (QOp_loadN_ptr _ _ _ _ _ _ _ rfl Tryz.isAgg26 Tryz.sizeOf26 rfl rfl (colD_all _) (colD_length _)) ?_
     obtain ⟨r10, hr10, h⟩ := bindO h
     refine kC [] 37 (bV r10) [.box (colD Col.zero), .box (colD x6), .box (colD r9)] rfl Tryz.call35 rfl rfl (spec_l06Less_ac k r9 x6 _ hr10) rfl ?_
     refine AOps_nil ?_
     refine kI h rfl (fun h _ => ?_) (fun h _ => ?_)
     ·refine (ACode_region ?_)
      refine AOps_q 38 _ rfl rfl rfl (QOp_loadN_ptr _ _ _ _ _ _ _ rfl Tryz.isAgg26 Tryz.sizeOf26 rfl rfl (colD_all _) (colD_length _)) ?_
      refine AOps_store _ _ _ _ _ _ (colD _) _ _ rfl rfl rfl rfl rfl rfl rfl (colD_one _) (by rw [colD_length]; exact Tryz.sizeOf26) (by rw [colD_length, colD_length]; decide) (colD_whole _ _) ?_
      refine AOps_nil ?_
      cases h
      exact Weak_keep 0 hm [1, 2, 4, 5, 6] [0, 1] _ _ rfl rfl rfl
     refine ACode_skip ?_
     cases h
     exact Weak_keep 0 hm [1, 2, 4, 5, 6] [0, 1] _ _ rfl rfl rfl
    refine (ACode_region ?_)
    refine kM 1 rfl ?_
    refine AOps_q 28 _ rfl rfl rfl (QOp_add _ _ _ _ _ _ _ rfl rfl rfl) ?_
    refine kN 1 rfl ?_
    exact ⟨k0, _, _, Nat.lt_succ_self _, Weak_keep 0 hm [1, 2, 4, 5, 6] [0, 1] _ _ rfl rfl rfl, _, _, rfl, rfl, h⟩
   refine ACode_exit ?_
   cases h
   exact Weak_keep 0 hm [2, 4] [0, 1] _ _ rfl rfl rfl
 refine kR ?_
 refine AOps_q 39 _ rfl rfl rfl (QOp_loadN_ptr _ _ _ _ _ _ _ rfl Tryz.isAgg26 Tryz.sizeOf26 rfl rfl (colD_all _) (colD_length _)) ?_
 refine AOps_store _ _ _ _ _ _ (colD _) _ _ rfl rfl rfl rfl rfl rfl rfl (colD_one _) (by rw [colD_length]; exact Tryz.sizeOf26) (by rw [colD_length, colD_length]; decide) (colD_whole _ _) ?_
 refine kN 1 rfl ?_
 refine ACode_ret ?_
 cases h
 exact ⟨_, _, fun r a w h => ⟨r, h⟩, _, _, [], _, (.cons (ResV_agg _ _ _ _ _ _ Tryz.isAgg26 Tryz.sizeOf26 rfl rfl (colD_take _) (colD_length _)) (.cons (ResV_tmp _ _ rfl) .nil)), rfl, rfl, rfl, rfl, rfl⟩

def spec_l06Draw (k : Nat) (p0 : Src) : Option (Col × Src) :=
 (spec_l01Next p0 4).bind fun r1 => (if decide (r1.1 = 0) then (spec_l01Spoil k r1.2).bind fun r3 => some (r3.1, r3.2) else (if decide (r1.1 = 1) then (spec_l01Next r1.2 ((spec_l01Names).length : Int)).bind fun r6 => (if 0 ≤ r6.1 ∧ r6.1 < ((spec_l01Names).length : Int) then (spec_l01Named k ((spec_l01Names).getD r6.1.toNat ByteArray.empty)).bind fun r8 => (spec_l01DrawOrder k r6.2 r8.1.p).bind fun r9 => (spec_l01Renamed k r8.1 r9.1).bind fun r10 => some (r10, r9.2) else none) else (spec_l01Small k r1.2).bind fun r11 => some (r11.1, r11.2)))
theorem spec_l06Draw_ac (k : Nat) (p0 : Src) (r : Col × Src) (h : spec_l06Draw k p0 = some r) : AC Tryz.prog 36 [.ptr 0 0] [.box (srcD p0)] (fun res H' => res = [.d (.agg (colD r.1))] ∧ H' = [.box (srcD r.2)]) := by
 refine AC_of_body true Tryz.func36 rfl Tryz.ntmps36 (rvs := [.cell 2 26]) rfl rfl (fun G hG => ?_)
 have hm : G.H.length = 1 := by rw [hG]; rfl
 have hz : zeroG G.H = true := by rw [hG]; rfl
 unfold spec_l06Draw at h
 refine kR ?_
 refine AOps_alloc 2 _ _ (colD Col.zero) (zero_of Tryz.typeInfo26 rfl) (by rfl) rfl rfl rfl rfl ?_
 refine AOps_nil ?_
 refine ACode_seq ?_
 refine kR ?_
 refine kM 1 rfl ?_
 obtain ⟨r1, hr1, h⟩ := bindO h
 refine kC [0] 7 (iV r1.1) [.box (srcD r1.2), .box (colD Col.zero)] rfl Tryz.call23 rfl rfl (spec_l01Next_ac p0 4 _ hr1) rfl ?_
 refine AOps_nil ?_
 refine ACode_block ?_
 refine kR ?_
 refine AOps_q 9 _ rfl rfl rfl (QOp_eql _ _ _ _ _ _ _ rfl rfl rfl) ?_
 refine kN 1 rfl ?_
 refine kI h rfl (fun h _ => ?_) (fun h _ => ?_)
 ·refine kR ?_
  refine kM 1 rfl ?_
  obtain ⟨r3, hr3, h⟩ := bindO h
  refine kC [0] 11 (.d (.agg (colD r3.1))) [.box (srcD r3.2), .box (colD Col.zero)] rfl Tryz.call24 rfl rfl (spec_l01Spoil_ac k r1.2 _ hr3) rfl ?_
  refine AOps_store _ _ _ _ _ _ (colD _) _ _ rfl rfl rfl rfl rfl rfl rfl (colD_one _) (by rw [colD_length]; exact Tryz.sizeOf26) (by rw [colD_length, colD_length]; decide) (colD_whole _ _) ?_
  refine AOps_nil ?_
  refine ACode_ret ?_
  cases h
  exact ⟨_, _, fun r a w h => ⟨r, h⟩, _, _, [], _, (.cons (ResV_agg _ _ _ _ _ _ Tryz.isAgg26 Tryz.sizeOf26 rfl rfl (colD_take _) (colD_length _)) .nil), rfl, rfl, rfl, rfl, rfl⟩
 refine kR ?_
 refine AOps_q 13 _ rfl rfl rfl (QOp_eql _ _ _ _ _ _ _ rfl rfl rfl) ?_
 refine kN 1 rfl ?_
 refine kI h rfl (fun h _ => ?_) (fun h _ => ?_)
 ·refine kR ?_
  refine kC [] 14 (.vec 2 0) [.box (srcD r1.2), .box (colD Col.zero), .vec 0 (stsD (spec_l01Names))] rfl Tryz.call72 rfl rfl (spec_l01Names_ac) rfl ?_
  refine kN 1 rfl ?_
  refine kR ?_
  refine kM 3 rfl ?_
  refine AOps_q 19 _ rfl rfl rfl (QOp_len_vec _ _ _ _ _ _ _ _ (stsD_length _) rfl rfl rfl rfl Tryz.underlying92 rfl rfl) ?_
  obtain ⟨r6, hr6, h⟩ := bindO h
  refine kC [0] 20 (iV r6.1) [.box (srcD r6.2), .box (colD Col.zero), .vec 0 (stsD (spec_l01Names))] rfl Tryz.call23 rfl rfl (spec_l01Next_ac r1.2 ((spec_l01Names).length : Int) _ hr6) rfl ?_
  obtain ⟨hc7, h⟩ := guardO h
  refine AOps_q 21 _ rfl rfl rfl (QOp_indexAddr_vec _ _ _ _ _ _ _ _ _ rfl Tryz.underlying92 Tryz.sizeOf9 hc7.1 (by rw [stsD_length]; exact hc7.2) rfl rfl rfl) ?_
  refine AOps_q 22 _ rfl rfl rfl (QOp_load_eptr _ _ _ _ _ _ _ rfl Tryz.isAgg9 rfl rfl (stsD_get _ _ ByteArray.empty (by omega))) ?_
  obtain ⟨r8, hr8, h⟩ := bindO h
  refine kC [] 23 (.tup [.d (.agg (colD r8.1)), bV r8.2]) [.box (srcD r6.2), .box (colD Col.zero), .vec 0 (stsD (spec_l01Names))] rfl Tryz.call60 rfl rfl (spec_l01Named_ac k ((spec_l01Names).getD r6.1.toNat ByteArray.empty) _ hr8) rfl ?_
  refine kM 3 rfl ?_
  refine AOps_alloc 4 _ _ (colD Col.zero) (zero_of Tryz.typeInfo26 rfl) (by rfl) rfl rfl rfl rfl ?_
  refine AOps_store _ _ _ _ _ _ (colD _) _ _ rfl rfl rfl rfl rfl rfl rfl (colD_one _) (by rw [colD_length]; exact Tryz.sizeOf26) (by rw [colD_length, colD_length]; decide) (colD_whole _ _) ?_
  refine kN 1 rfl ?_
  obtain ⟨r9, hr9, h⟩ := bindO h
  obtain ⟨r10, hr10, h⟩ := bindO h
  refine ACode_seq (ACode_reg [(2, .ptr 1 0)] [.box (srcD r9.2), .box (colD r10)] ?_ ?_)
  ·refine ACode_anyU mixed ?_
   refine AU_cut 2 #[true, true, true, true, true, false, false] [(2, .ptr 1 0), (26, .d (.agg (colD r8.1))), (30, .vec 2 0)] [.box (srcD r9.2), .box (colD Col.zero), .vec 0 (intsD r9.1)] ?_ (fun hS0 => ?_)
   ·refine AU_one 5 (by kernel_rfl) rfl rfl ?_
    refine AOps_callL [] 31 _ _ _ _ _ _ _ _ _ _ rfl rfl rfl rfl rfl rfl rfl Tryz.call34 rfl (nodupB_sound _ rfl) rfl rfl rfl (spec_l01Renamed_ac k r8.1 r9.1 _ hr10) ?_
    rintro _ _ ⟨rfl, rfl⟩
    refine ⟨(fun _ h => nomatch h), (allc (flat_agg (colD_flat _)) (fun _ h => nomatch h)), AOps_as 31 (v' := .d (.agg (colD r10))) (H' := [.box (srcD r9.2), .box (colD Col.zero), .vec 0 (intsD r9.1)]) rfl rfl ?_⟩
    refine AOps_nil ?_
    refine AU_one 6 (by kernel_rfl) rfl rfl ?_
    refine AOps_store _ _ _ _ _ _ (colD _) _ _ rfl rfl rfl rfl rfl rfl rfl (colD_one _) (by rw [colD_length]; exact Tryz.sizeOf26) (by rw [colD_length, colD_length]; decide) (colD_whole _ _) ?_
    refine AOps_nil ?_
    refine AU_done (by kernel_rfl) ?_
    exact ⟨rfl, Weak_keep 1 hm [2] [1] _ _ rfl rfl rfl⟩
   refine AU_cut 3 #[true, true, true, true, false, false, false] [(2, .ptr 1 0), (26, .d (.agg (colD r8.1))), (27, .ptr 0 0), (29, iV r8.1.p)] [.box (srcD r6.2), .box (colD Col.zero)] ?_ (fun hS1 => ?_)
   ·refine AU_one 4 (by kernel_rfl) rfl rfl ?_
    refine kC [0] 30 (.vec 2 0) [.box (srcD r9.2), .box (colD Col.zero), .vec 0 (intsD r9.1)] rfl Tryz.call61 rfl rfl (spec_l01DrawOrder_ac k r6.2 r8.1.p _ hr9) rfl ?_
    refine AOps_nil ?_
    exact AU_to (by kernel_rfl) hS0 (Weak_keep 1 hm [2, 26, 30] [1, 2] _ _ rfl rfl rfl)
   refine AU_u 1 27 _ rfl (by kernel_rfl) rfl rfl rfl (UOp_move _ _ rfl rfl) ?_
   refine AU_u 2 28 _ rfl (by kernel_rfl) rfl rfl rfl (UOp_fieldAddr_ptr _ _ _ _ _ _ 0 _ _ rfl Tryz.underlying26 rfl _ Tryz.sizeOf2 rfl rfl rfl rfl) ?_
   refine AU_all [0, 3] (by kernel_rfl) rfl (allc ?_ (allc ?_ (fun _ h => nomatch h)))
   ·refine US_of 0 rfl rfl ?_
    refine AOps_q 26 _ rfl rfl rfl (QOp_loadN_ptr _ _ _ _ _ _ _ rfl Tryz.isAgg26 Tryz.sizeOf26 rfl rfl (colD_all _) (colD_length _)) ?_
    refine AOps_nil ?_
    refine AU_one 3 (by kernel_rfl) rfl rfl ?_
    refine AOps_q 29 _ rfl rfl rfl (QOp_load_ptr _ _ _ _ _ _ rfl Tryz.isAgg2 rfl rfl rfl) ?_
    refine AOps_nil ?_
    exact AU_to (by kernel_rfl) hS1 (Weak_keep 1 hm [2, 26, 27, 29] [1] _ _ rfl rfl rfl)
   refine US_of 3 rfl rfl ?_
   refine AOps_q 29 _ rfl rfl rfl (QOp_load_ptr _ _ _ _ _ _ rfl Tryz.isAgg2 rfl rfl rfl) ?_
   refine AOps_nil ?_
   refine AU_all [0, 4] (by kernel_rfl) rfl (allc ?_ (allc ?_ (fun _ h => nomatch h)))
   ·refine US_of 0 rfl rfl ?_
    refine AOps_q 26 _ rfl rfl rfl (QOp_loadN_ptr _ _ _ _ _ _ _ rfl Tryz.isAgg26 Tryz.sizeOf26 rfl rfl (colD_all _) (colD_length _)) ?_
    refine AOps_nil ?_
    exact AU_to (by kernel_rfl) hS1 (Weak_keep 1 hm [2, 26, 27, 29] [1] _ _ rfl rfl rfl)
   refine US_of 4 rfl rfl ?_
   refine kC [0] 30 (.vec 4 0) [.box (srcD r9.2), .box (colD Col.zero), .vec 0 (stsD (spec_l01Names)), .box (colD r8.1), .vec 0 (intsD r9.1)] rfl Tryz.call61 rfl rfl (spec_l01DrawOrder_ac k r6.2 r8.1.p _ hr9) rfl ?_
   refine AOps_nil ?_
   refine AU_one 0 (by kernel_rfl) rfl rfl ?_
   refine AOps_q 26 _ rfl rfl rfl (QOp_loadN_ptr _ _ _ _ _ _ _ rfl Tryz.isAgg26 Tryz.sizeOf26 rfl rfl (colD_all _) (colD_length _)) ?_
   refine AOps_nil ?_
   exact AU_to (by kernel_rfl) hS0 (Weak_keep 1 hm [2, 26, 30] [1, 4] _ _ rfl rfl rfl)
  refine ACode_ret ?_
  cases h
  exact ⟨_, _, fun r a w h => ⟨r, h⟩, _, _, [], _, (.cons (ResV_agg _ _ _ _ _ _ Tryz.isAgg26 Tryz.sizeOf26 rfl rfl (colD_take _) (colD_length _)) .nil), rfl, rfl, rfl, rfl, rfl⟩
 refine ACode_skip ?_
 refine kR ?_
 refine kM 1 rfl ?_
 obtain ⟨r11, hr11, h⟩ := bindO h
 refine kC [0] 33 (.d (.agg (colD r11.1))) [.box (srcD r11.2), .box (colD Col.zero)] rfl Tryz.call26 rfl rfl (spec_l01Small_ac k r1.2 _ hr11) rfl ?_
 refine AOps_store _ _ _ _ _ _ (colD _) _ _ rfl rfl rfl rfl rfl rfl rfl (colD_one _) (by rw [colD_length]; exact Tryz.sizeOf26) (by rw [colD_length, colD_length]; decide) (colD_whole _ _) ?_
 refine AOps_nil ?_
 refine ACode_ret ?_
 cases h
 exact ⟨_, _, fun r a w h => ⟨r, h⟩, _, _, [], _, (.cons (ResV_agg _ _ _ _ _ _ Tryz.isAgg26 Tryz.sizeOf26 rfl rfl (colD_take _) (colD_length _)) .nil), rfl, rfl, rfl, rfl, rfl⟩

def spec_DrawPointOrbits (k : Nat) (p0 : List UInt8) : Option (Col) :=
 (spec_l01From k p0).bind fun r1 => (spec_l06Draw k r1).bind fun r2 => some r2.1
theorem spec_DrawPointOrbits_ac (k : Nat) (p0 : List UInt8) (r : Col) (h : spec_DrawPointOrbits k p0 = some r) : AC Tryz.prog 8 [.d (.sl none (bysD p0))] [] (fun res H' => res = [.d (.agg (colD r))] ∧ H' = []) := by
 refine AC_of_body true Tryz.func8 rfl Tryz.ntmps8 (rvs := [.cell 2 26]) rfl rfl (fun G hG => ?_)
 have hm : G.H.length = 0 := by rw [hG]; rfl
 have hz : zeroG G.H = true := by rw [hG]; rfl
 unfold spec_DrawPointOrbits at h
 refine kR ?_
 refine AOps_alloc 2 _ _ (colD Col.zero) (zero_of Tryz.typeInfo26 rfl) (by rfl) rfl rfl rfl rfl ?_
 refine AOps_nil ?_
 refine kR ?_
 refine kM 1 rfl ?_
 obtain ⟨r1, hr1, h⟩ := bindO h
 refine kC [] 4 (.ptr 1 0) [.box (colD Col.zero), .box (srcD r1)] rfl Tryz.call22 rfl rfl (spec_l01From_ac k p0 _ hr1) rfl ?_
 obtain ⟨r2, hr2, h⟩ := bindO h
 refine kC [1] 5 (.d (.agg (colD r2.1))) [.box (colD Col.zero), .box (srcD r2.2)] rfl Tryz.call36 rfl rfl (spec_l06Draw_ac k r1 _ hr2) rfl ?_
 refine AOps_store _ _ _ _ _ _ (colD _) _ _ rfl rfl rfl rfl rfl rfl rfl (colD_one _) (by rw [colD_length]; exact Tryz.sizeOf26) (by rw [colD_length, colD_length]; decide) (colD_whole _ _) ?_
 refine AOps_nil ?_
 refine ACode_ret ?_
 cases h
 exact ⟨_, _, fun r a w h => ⟨r, h⟩, _, _, [], _, (.cons (ResV_agg _ _ _ _ _ _ Tryz.isAgg26 Tryz.sizeOf26 rfl rfl (colD_take _) (colD_length _)) .nil), rfl, rfl, rfl, rfl, rfl⟩

def spec_l01Around_l0 (p0 : Col) (p1 : Int) (p2 : Int) : Nat → Int → Int → Option (Int)
 | 0, _, _ => none
 | k0 + 1, x1, x2 => (if decide (x2 < p0.p) then (((if !decide (x2 = p1) then (spec_l01At p0 p1 x2).bind fun r5 => some (decide (r5 = p2)) else some false) : Option (Bool)).bind fun s6 => (if s6 then (if 0 ≤ IntKind.u64.wrap x2 then some (bOr .i64 x1 (bShl .i64 1 (IntKind.u64.wrap x2))) else none) else some x1) : Option (Int)).bind fun s9 => spec_l01Around_l0 p0 p1 p2 k0 s9 (w64 (x2 + 1)) else some x1)
def spec_l01Around (k : Nat) (p0 : Col) (p1 : Int) (p2 : Int) : Option (Int) :=
 (spec_l01Around_l0 p0 p1 p2 k 0 0 : Option (Int)).bind fun s10 => some s10
theorem spec_l01Around_ac (k : Nat) (p0 : Col) (p1 : Int) (p2 : Int) (r : Int) (h : spec_l01Around k p0 p1 p2 = some r) : AC Tryz.prog 94 [.d (.agg (colD p0)), iV p1, iV p2] [] (fun res H' => res = [iV r] ∧ H' = []) := by
 refine AC_of_body true Tryz.func94 rfl Tryz.ntmps94 (rvs := [.tmp 6]) rfl rfl (fun G hG => ?_)
 have hm : G.H.length = 0 := by rw [hG]; rfl
 have hz : zeroG G.H = true := by rw [hG]; rfl
 unfold spec_l01Around at h
 refine kR ?_
 refine AOps_boxI 3 _ _ (.agg (colD p0)) (colD p0) rfl (colD_one _) rfl rfl rfl rfl rfl ?_
 refine kN 1 rfl ?_
 refine kR ?_
 refine kN 1 rfl ?_
 refine kB (fun s10 => [(7, iV s10)]) (fun s10 => []) h (fun s10 h => ?_) (fun s10 h => ?_)
 ·refine kR ?_
  refine kN 1 rfl ?_
  refine ACode_block ?_
  refine ACode_loopW (fun k0 E H => ∃ (x1 : Int) (x2 : Int), E = [(1, iV p1), (2, iV p2), (3, .d (.pv (colD p0) 0)), (7, iV x1), (8, iV x2)] ∧ H = [] ∧ spec_l01Around_l0 p0 p1 p2 k0 x1 x2 = some s10) k _ _ (Weak_keep 0 hm [1, 2, 3, 7, 8] [] _ _ rfl rfl rfl) ⟨_, _, rfl, rfl, h⟩ ?_
  clear h
  rintro k0 E H ⟨x1, x2, rfl, rfl, h⟩
  cases k0 with
  | zero => cases (show (none : Option (Int)) = some _ from h)
  | succ k0 =>
   rw [spec_l01Around_l0] at h
   refine ACode_seq ?_
   refine kR ?_
   refine kM 1 rfl ?_
   refine AOps_q 10 _ rfl rfl rfl (QOp_fieldAddr_pv _ _ _ _ _ 0 _ _ rfl Tryz.underlying26 rfl _ Tryz.sizeOf2 rfl rfl) ?_
   refine AOps_q 11 _ rfl rfl rfl (QOp_load_pv _ _ _ _ _ rfl Tryz.isAgg2 rfl rfl) ?_
   refine AOps_q 12 _ rfl rfl rfl (QOp_lss _ _ _ _ _ _ _ rfl rfl rfl) ?_
   refine AOps_nil ?_
   refine kI h rfl (fun h _ => ?_) (fun h _ => ?_)
   ·refine ACode_skip ?_
    refine kB (fun s9 => [(1, iV p1), (2, iV p2), (3, .d (.pv (colD p0) 0)), (7, iV s9), (8, iV x2)]) (fun s9 => []) h (fun s9 h => ?_) (fun s9 h => ?_)
    ·refine ACode_block ?_
     refine kB (fun s6 => [(1, iV p1), (2, iV p2), (3, .d (.pv (colD p0) 0)), (7, iV x1), (8, iV x2), (25, bV s6)]) (fun s6 => []) h (fun s6 h => ?_) (fun s6 h => ?_)
     ·refine (ACode_region ?_)
      refine kM 2 rfl ?_
      refine AOps_q 17 _ rfl rfl rfl (QOp_neq _ _ _ _ _ _ _ rfl rfl rfl) ?_
      refine kM 1 rfl ?_
      refine AOps_case 18 _ rfl (fun hb4 => ?_) (fun hb4 => ?_)
      ·have h := iteT hb4 h
       refine AOps_q 19 _ rfl rfl rfl (QOp_loadN_pv _ _ _ _ _ _ rfl Tryz.isAgg26 Tryz.sizeOf26 rfl (colD_all _) (colD_length _)) ?_
       refine kM 2 rfl ?_
       obtain ⟨r5, hr5, h⟩ := bindO h
       refine kC [] 22 (iV r5) [] rfl Tryz.call70 rfl rfl (spec_l01At_ac p0 p1 x2 _ hr5) rfl ?_
       refine kM 1 rfl ?_
       refine AOps_q 24 _ rfl rfl rfl (QOp_eql _ _ _ _ _ _ _ rfl rfl rfl) ?_
       refine kN 1 rfl ?_
       cases h
       exact Weak_keep 0 hm [1, 2, 3, 7, 8, 25] [] _ _ rfl rfl rfl
      have h := iteF hb4 h
      refine AOps_skip 19 rfl rfl rfl ?_
      refine AOps_skip 20 rfl rfl rfl ?_
      refine AOps_skip 21 rfl rfl rfl ?_
      refine AOps_skip 22 rfl rfl rfl ?_
      refine AOps_skip 23 rfl rfl rfl ?_
      refine AOps_skip 24 rfl rfl rfl ?_
      refine kN 1 rfl ?_
      cases h
      exact Weak_keep 0 hm [1, 2, 3, 7, 8, 25] [] _ _ rfl rfl rfl
     refine kI h rfl (fun h _ => ?_) (fun h _ => ?_)
     ·refine (ACode_region ?_)
      refine kM 2 rfl ?_
      refine AOps_q 28 _ rfl rfl rfl (QOp_conv _ _ _ _ _ _ rfl rfl Tryz.underlying78 rfl) ?_
      obtain ⟨hc8, h⟩ := guardO h
      refine AOps_q 29 _ rfl rfl rfl (QOp_shl _ _ _ _ _ _ _ _ hc8 rfl rfl rfl) ?_
      refine AOps_q 30 _ rfl rfl rfl (QOp_or _ _ _ _ _ _ _ rfl rfl rfl) ?_
      refine kN 1 rfl ?_
      cases h
      exact Weak_keep 0 hm [1, 2, 3, 7, 8] [] _ _ rfl rfl rfl
     refine ACode_skip ?_
     cases h
     exact Weak_keep 0 hm [1, 2, 3, 7, 8] [] _ _ rfl rfl rfl
    refine (ACode_region ?_)
    refine kM 1 rfl ?_
    refine AOps_q 14 _ rfl rfl rfl (QOp_add _ _ _ _ _ _ _ rfl rfl rfl) ?_
    refine kN 1 rfl ?_
    exact ⟨k0, _, _, Nat.lt_succ_self _, Weak_keep 0 hm [1, 2, 3, 7, 8] [] _ _ rfl rfl rfl, _, _, rfl, rfl, h⟩
   refine ACode_exit ?_
   cases h
   exact Weak_keep 0 hm [7] [] _ _ rfl rfl rfl
 refine kR ?_
 refine kN 2 rfl ?_
 refine ACode_ret ?_
 cases h
 exact ⟨_, _, fun r a w h => ⟨r, h⟩, _, _, [], _, (.cons (ResV_tmp _ _ rfl) .nil), rfl, rfl, rfl, rfl, rfl⟩

def spec_l01Ones_l0 : Nat → Int → Int → Option (Int)
 | 0, _, _ => none
 | k0 + 1, x1, x2 => (if decide (0 < x1) then spec_l01Ones_l0 k0 (w64 (x1.tdiv 2)) (w64 (x2 + (x1.tmod 2))) else some x2)
def spec_l01Ones (k : Nat) (p0 : Int) : Option (Int) :=
 (spec_l01Ones_l0 k p0 0 : Option (Int)).bind fun s4 => some s4
theorem spec_l01Ones_ac (k : Nat) (p0 : Int) (r : Int) (h : spec_l01Ones k p0 = some r) : AC Tryz.prog 93 [iV p0] [] (fun res H' => res = [iV r] ∧ H' = []) := by
 refine AC_of_body true Tryz.func93 rfl Tryz.ntmps93 (rvs := [.tmp 2]) rfl rfl (fun G hG => ?_)
 have hm : G.H.length = 0 := by rw [hG]; rfl
 have hz : zeroG G.H = true := by rw [hG]; rfl
 unfold spec_l01Ones at h
 refine kR ?_
 refine kN 1 rfl ?_
 refine kR ?_
 refine kN 1 rfl ?_
 refine kB (fun s4 => [(3, iV s4)]) (fun s4 => []) h (fun s4 h => ?_) (fun s4 h => ?_)
 ·refine ACode_block ?_
  refine ACode_loopW (fun k0 E H => ∃ (x1 : Int) (x2 : Int), E = [(0, iV x1), (3, iV x2)] ∧ H = [] ∧ spec_l01Ones_l0 k0 x1 x2 = some s4) k _ _ (Weak_keep 0 hm [0, 3] [] _ _ rfl rfl rfl) ⟨_, _, rfl, rfl, h⟩ ?_
  clear h
  rintro k0 E H ⟨x1, x2, rfl, rfl, h⟩
  cases k0 with
  | zero => cases (show (none : Option (Int)) = some _ from h)
  | succ k0 =>
   rw [spec_l01Ones_l0] at h
   refine ACode_seq ?_
   refine kR ?_
   refine kM 1 rfl ?_
   refine AOps_q 5 _ rfl rfl rfl (QOp_gtr _ _ _ _ _ _ _ rfl rfl rfl) ?_
   refine AOps_nil ?_
   refine kI h rfl (fun h _ => ?_) (fun h _ => ?_)
   ·refine ACode_skip ?_
    refine ACode_seq ?_
    refine ACode_block ?_
    refine (ACode_region ?_)
    refine kM 2 rfl ?_
    refine AOps_q 10 _ rfl rfl rfl (QOp_rem _ _ _ _ _ _ _ (by decide) rfl rfl rfl) ?_
    refine AOps_q 11 _ rfl rfl rfl (QOp_add _ _ _ _ _ _ _ rfl rfl rfl) ?_
    refine kN 1 rfl ?_
    refine (ACode_region ?_)
    refine kM 1 rfl ?_
    refine AOps_q 7 _ rfl rfl rfl (QOp_quo _ _ _ _ _ _ _ (by decide) rfl rfl rfl) ?_
    refine kN 1 rfl ?_
    exact ⟨k0, _, _, Nat.lt_succ_self _, Weak_keep 0 hm [0, 3] [] _ _ rfl rfl rfl, _, _, rfl, rfl, h⟩
   refine ACode_exit ?_
   cases h
   exact Weak_keep 0 hm [3] [] _ _ rfl rfl rfl
 refine kR ?_
 refine kN 2 rfl ?_
 refine ACode_ret ?_
 cases h
 exact ⟨_, _, fun r a w h => ⟨r, h⟩, _, _, [], _, (.cons (ResV_tmp _ _ rfl) .nil), rfl, rfl, rfl, rfl, rfl⟩

def spec_l06Types_l1 (k : Nat) (p0 : Col) (x1 : Int) : Nat → Int → Int → Option (Int)
 | 0, _, _ => none
 | k1 + 1, x4, x5 => (if decide (x5 < p0.k) then (spec_l01Around k p0 x1 x5).bind fun r7 => (spec_l01Ones k r7).bind fun r8 => spec_l06Types_l1 k p0 x1 k1 (w64 ((w64 (x4 * 18)) + r8)) (w64 (x5 + 1)) else some x4)
def spec_l06Types_l0 (k : Nat) (p0 : Col) : Nat → Int → (List Int) → Option (List Int)
 | 0, _, _ => none
 | k0 + 1, x1, x2 => (if decide (x1 < p0.p) then ((spec_l06Types_l1 k p0 x1 k 0 0 : Option (Int)).bind fun s9 => (if x2.length + ([s9]).length ≤ 1099511627776 then some (x2 ++ ([s9])) else none) : Option (List Int)).bind fun s11 => spec_l06Types_l0 k p0 k0 (w64 (x1 + 1)) s11 else some x2)
def spec_l06Types (k : Nat) (p0 : Col) : Option (List Int) :=
 (spec_l06Types_l0 k p0 k 0 ([] : List Int) : Option (List Int)).bind fun s12 => some s12
theorem spec_l06Types_ac (k : Nat) (p0 : Col) (r : List Int) (h : spec_l06Types k p0 = some r) : AC Tryz.prog 78 [.d (.agg (colD p0))] [] (fun res H' => res = [.vec 0 0] ∧ H' = [.vec 0 (intsD r)]) := by
 refine AC_of_body true Tryz.func78 rfl Tryz.ntmps78 (rvs := [.tmp 2]) rfl rfl (fun G hG => ?_)
 have hm : G.H.length = 0 := by rw [hG]; rfl
 have hz : zeroG G.H = true := by rw [hG]; rfl
 unfold spec_l06Types at h
 refine kR ?_
 refine AOps_boxI 1 _ _ (.agg (colD p0)) (colD p0) rfl (colD_one _) rfl rfl rfl rfl rfl ?_
 refine kN 1 rfl ?_
 refine kR ?_
 refine AOps_buildSlice 7 _ _ _ [] (intsD ([] : List Int)) _ rfl rfl rfl rfl rfl (by decide) Tryz.underlying40 Tryz.sizeOf2 (zero_of Tryz.typeInfo2 rfl) rfl rfl (intsD_one _) ?_
 refine kN 1 rfl ?_
 refine kB (fun s12 => [(3, .vec 0 0)]) (fun s12 => [.vec 0 (intsD s12)]) h (fun s12 h => ?_) (fun s12 h => ?_)
 ·refine kR ?_
  refine kN 1 rfl ?_
  refine ACode_block ?_
  refine ACode_loopW (fun k0 E H => ∃ (x1 : Int) (x2 : List Int), E = [(1, .d (.pv (colD p0) 0)), (3, .vec 0 0), (4, iV x1)] ∧ H = [.vec 0 (intsD x2)] ∧ spec_l06Types_l0 k p0 k0 x1 x2 = some s12) k _ _ (Weak_keep 0 hm [1, 3, 4] [0] _ _ rfl rfl rfl) ⟨_, _, rfl, rfl, h⟩ ?_
  clear h
  rintro k0 E H ⟨x1, x2, rfl, rfl, h⟩
  cases k0 with
  | zero => cases (show (none : Option (List Int)) = some _ from h)
  | succ k0 =>
   rw [spec_l06Types_l0] at h
   refine ACode_seq ?_
   refine kR ?_
   refine kM 1 rfl ?_
   refine AOps_q 9 _ rfl rfl rfl (QOp_fieldAddr_pv _ _ _ _ _ 0 _ _ rfl Tryz.underlying26 rfl _ Tryz.sizeOf2 rfl rfl) ?_
   refine AOps_q 10 _ rfl rfl rfl (QOp_load_pv _ _ _ _ _ rfl Tryz.isAgg2 rfl rfl) ?_
   refine AOps_q 11 _ rfl rfl rfl (QOp_lss _ _ _ _ _ _ _ rfl rfl rfl) ?_
   refine AOps_nil ?_
   refine kI h rfl (fun h _ => ?_) (fun h _ => ?_)
   ·refine ACode_skip ?_
    refine kB (fun s11 => [(1, .d (.pv (colD p0) 0)), (3, .vec 0 0), (4, iV x1)]) (fun s11 => [.vec 0 (intsD s11)]) h (fun s11 h => ?_) (fun s11 h => ?_)
    ·refine ACode_block ?_
     refine kR ?_
     refine kN 1 rfl ?_
     refine kB (fun s9 => [(1, .d (.pv (colD p0) 0)), (3, .vec 0 0), (4, iV x1), (5, iV s9)]) (fun s9 => [.vec 0 (intsD x2)]) h (fun s9 h => ?_) (fun s9 h => ?_)
     ·refine kR ?_
      refine kN 1 rfl ?_
      refine ACode_block ?_
      refine ACode_loopW (fun k1 E H => ∃ (x4 : Int) (x5 : Int), E = [(1, .d (.pv (colD p0) 0)), (3, .vec 0 0), (4, iV x1), (5, iV x4), (6, iV x5)] ∧ H = [.vec 0 (intsD x2)] ∧ spec_l06Types_l1 k p0 x1 k1 x4 x5 = some s9) k _ _ (Weak_keep 0 hm [1, 3, 4, 5, 6] [0] _ _ rfl rfl rfl) ⟨_, _, rfl, rfl, h⟩ ?_
      clear h
      rintro k1 E H ⟨x4, x5, rfl, rfl, h⟩
      cases k1 with
      | zero => cases (show (none : Option (Int)) = some _ from h)
      | succ k1 =>
       rw [spec_l06Types_l1] at h
       refine ACode_seq ?_
       refine kR ?_
       refine kM 1 rfl ?_
       refine AOps_q 15 _ rfl rfl rfl (QOp_fieldAddr_pv _ _ _ _ _ 1 _ _ rfl Tryz.underlying26 rfl _ Tryz.sizeOf2 rfl rfl) ?_
       refine AOps_q 16 _ rfl rfl rfl (QOp_load_pv _ _ _ _ _ rfl Tryz.isAgg2 rfl rfl) ?_
       refine AOps_q 17 _ rfl rfl rfl (QOp_lss _ _ _ _ _ _ _ rfl rfl rfl) ?_
       refine AOps_nil ?_
       refine kI h rfl (fun h _ => ?_) (fun h _ => ?_)
       ·refine ACode_skip ?_
        refine ACode_seq ?_
        refine ACode_block ?_
        refine (ACode_region ?_)
        refine kM 1 rfl ?_
        refine AOps_q 21 _ rfl rfl rfl (QOp_mul _ _ _ _ _ _ _ rfl rfl rfl) ?_
        refine AOps_q 22 _ rfl rfl rfl (QOp_loadN_pv _ _ _ _ _ _ rfl Tryz.isAgg26 Tryz.sizeOf26 rfl (colD_all _) (colD_length _)) ?_
        refine kM 2 rfl ?_
        obtain ⟨r7, hr7, h⟩ := bindO h
        refine kC [] 25 (iV r7) [.vec 0 (intsD x2)] rfl Tryz.call94 rfl rfl (spec_l01Around_ac k p0 x1 x5 _ hr7) rfl ?_
        obtain ⟨r8, hr8, h⟩ := bindO h
        refine kC [] 26 (iV r8) [.vec 0 (intsD x2)] rfl Tryz.call93 rfl rfl (spec_l01Ones_ac k r7 _ hr8) rfl ?_
        refine AOps_q 27 _ rfl rfl rfl (QOp_add _ _ _ _ _ _ _ rfl rfl rfl) ?_
        refine kN 1 rfl ?_
        refine (ACode_region ?_)
        refine kM 1 rfl ?_
        refine AOps_q 19 _ rfl rfl rfl (QOp_add _ _ _ _ _ _ _ rfl rfl rfl) ?_
        refine kN 1 rfl ?_
        exact ⟨k1, _, _, Nat.lt_succ_self _, Weak_keep 0 hm [1, 3, 4, 5, 6] [0] _ _ rfl rfl rfl, _, _, rfl, rfl, h⟩
       refine ACode_exit ?_
       cases h
       exact Weak_keep 0 hm [1, 3, 4, 5] [0] _ _ rfl rfl rfl
     refine (ACode_region ?_)
     refine kM 2 rfl ?_
     refine AOps_buildSlice 30 _ _ _ [_] (intsD ([s9])) _ rfl rfl rfl rfl rfl (by decide) Tryz.underlying40 Tryz.sizeOf2 (zero_of Tryz.typeInfo2 rfl) rfl rfl (intsD_one _) ?_
     obtain ⟨hc10, h⟩ := guardO h
     refine AOps_append 31 _ _ _ _ _ _ _ _ _ _ _ _ rfl rfl rfl rfl rfl rfl rfl Tryz.underlying40 Tryz.type2 rfl rfl rfl (by decide) rfl rfl rfl rfl (intsD_one _) (by rw [intsD_length, intsD_length]; exact hc10) ?_
     rw [intsD_app]
     refine kN 1 rfl ?_
     cases h
     exact Weak_trans (Weak_keep 0 hm [1, 3, 4] [0] _ _ rfl rfl rfl) (Weak_reset 0 hm hz [1, 3, 4] _ _ rfl rfl)
    refine (ACode_region ?_)
    refine kM 1 rfl ?_
    refine AOps_q 13 _ rfl rfl rfl (QOp_add _ _ _ _ _ _ _ rfl rfl rfl) ?_
    refine kN 1 rfl ?_
    exact ⟨k0, _, _, Nat.lt_succ_self _, Weak_keep 0 hm [1, 3, 4] [0] _ _ rfl rfl rfl, _, _, rfl, rfl, h⟩
   refine ACode_exit ?_
   cases h
   exact Weak_keep 0 hm [3] [0] _ _ rfl rfl rfl
 refine kR ?_
 refine kN 2 rfl ?_
 refine ACode_ret ?_
 cases h
 exact ⟨_, _, Weak_reset 0 hm hz [2] _ _ rfl rfl, _, _, [0], _, (.cons (ResV_tmp _ _ rfl) .nil), rfl, rfl, rfl, rfl, rfl⟩

def spec_l06Go_l1 (p1 : List Int) (x5 : Int) (x6 : Sea) : Nat → Bool → Int → Option (Bool)
 | 0, _, _ => none
 | k1 + 1, x18, x19 => (letO (if decide (x19 < (p1.length : Int)) then x18 else false) fun (s21 : Bool) => (if s21 then some (.inl ()) else (some x18).bind fun rr => some (.inr rr)) : Option (Sum (Unit) (Bool))).bind fun os23 => (match os23 with | .inl s23 => (spec_l01At x6.x x19 (p1.length : Int)).bind fun r24 => (if 0 ≤ x19 ∧ x19 < (p1.length : Int) then (spec_l01At x6.y (p1.getD x19.toNat 0) x5).bind fun r26 => spec_l06Go_l1 p1 x5 x6 k1 (decide (r24 = r26)) (w64 (x19 + 1)) else none) | .inr rr => some rr)
def spec_l06Go_l0 (k : Nat) (self : Sea → (List Int) → Int → Option (Sea)) (p1 : List Int) (p2 : Int) : Nat → Int → Sea → Option (Sea)
 | 0, _, _ => none
 | k0 + 1, x5, x6 => (letO (if decide (x5 < x6.x.p) then decide (x6.count < x6.most) else false) fun (s8 : Bool) => (if s8 then some (.inl ()) else some (.inr x6)) : Option (Sum (Unit) (Sea))).bind fun os10 => (match os10 with | .inl s10 => ((((if 0 ≤ IntKind.u64.wrap x5 then (if decide (bAnd .i64 (bShr .i64 p2 (IntKind.u64.wrap x5)) 1 = 1) then some true else (if 0 ≤ (p1.length : Int) ∧ (p1.length : Int) < (x6.one.length : Int) then (if 0 ≤ x5 ∧ x5 < (x6.two.length : Int) then some (!decide ((x6.one.getD (p1.length : Int).toNat 0) = (x6.two.getD x5.toNat 0))) else none) else none)) else none) : Option (Bool)).bind fun s15 => (if s15 then (some x6).bind fun rr => some (.inr rr) else some (.inl ())) : Option (Sum (Unit) (Sea))).bind fun os17 => (match os17 with | .inl s17 => (spec_l06Go_l1 p1 x5 x6 k true 0 : Option (Bool)).bind fun s27 => (if s27 then (spec_l01Own p1).bind fun r29 => (if r29.length + ([x5]).length ≤ 1099511627776 then (if 0 ≤ IntKind.u64.wrap x5 then (self x6 (r29 ++ ([x5])) (bOr .i64 p2 (bShl .i64 1 (IntKind.u64.wrap x5)))).bind fun r32 => some r32 else none) else none) else some x6) | .inr rr => some rr) : Option (Sea)).bind fun s33 => spec_l06Go_l0 k self p1 p2 k0 (w64 (x5 + 1)) s33 | .inr rr => some rr)
def spec_l06Go_body (self : Sea → (List Int) → Int → Option (Sea)) (k : Nat) (p0 : Sea) (p1 : List Int) (p2 : Int) : Option (Sea) :=
 (if decide ((p1.length : Int) = p0.x.p) then ((if decide (p0.count = 0) then (spec_l01Own p1).bind fun r3 => some (⟨p0.x, p0.y, p0.one, p0.two, p0.most, p0.count, r3⟩ : Sea) else some p0) : Option (Sea)).bind fun s4 => some (⟨s4.x, s4.y, s4.one, s4.two, s4.most, w64 (s4.count + 1), s4.first⟩ : Sea) else spec_l06Go_l0 k self p1 p2 k 0 p0)
def spec_l06Go : Nat → Sea → (List Int) → Int → Option (Sea)
 | 0, _, _, _ => none
 | k + 1, p0, p1, p2 => spec_l06Go_body (spec_l06Go k) k p0 p1 p2
theorem spec_l06Go_ac (k : Nat) (p0 : Sea) (p1 : List Int) (p2 : Int) (r : Sea) (h : spec_l06Go k p0 p1 p2 = some r) : AC Tryz.prog 79 [.ptr 0 0, .d (.sl none (intsD p1)), iV p2] [.box (seaD p0)] (fun res H' => res = [] ∧ H' = [.box (seaD r)]) := by
 induction k generalizing p0 p1 p2 r with
 | zero => simp [spec_l06Go] at h
 | succ k ih =>
  rw [spec_l06Go] at h
  obtain ⟨self, hself, hk⟩ : ∃ self : Sea → (List Int) → Int → Option (Sea), (∀ (p0 : Sea) (p1 : List Int) (p2 : Int) (r : Sea), self p0 p1 p2 = some r → AC Tryz.prog 79 [.ptr 0 0, .d (.sl none (intsD p1)), iV p2] [.box (seaD p0)] (fun res H' => res = [] ∧ H' = [.box (seaD r)])) ∧ spec_l06Go k = self := ⟨spec_l06Go k, fun p0 p1 p2 r h => ih p0 p1 p2 r h, rfl⟩
  rw [hk] at h
  clear ih hk
  refine AC_of_body true Tryz.func79 rfl Tryz.ntmps79 (rvs := []) rfl rfl (fun G hG => ?_)
  have hm : G.H.length = 1 := by rw [hG]; rfl
  have hz : zeroG G.H = true := by rw [hG]; rfl
  unfold spec_l06Go_body at h
  refine kR ?_
  refine kM 1 rfl ?_
  refine AOps_q 11 _ rfl rfl rfl (QOp_len_sl _ _ _ _ _ _ _ (intsD_length _) rfl rfl rfl rfl Tryz.underlying40 rfl) ?_
  refine kN 1 rfl ?_
  refine ACode_seq ?_
  refine kR ?_
  refine kM 2 rfl ?_
  refine AOps_q 14 _ rfl rfl rfl (QOp_nilCheck_ptr _ _ _ _ rfl rfl rfl rfl) ?_
  refine AOps_q 15 _ rfl rfl rfl (QOp_fieldAddr_ptr _ _ _ _ _ _ 0 _ _ rfl Tryz.underlying70 rfl _ Tryz.sizeOf26 rfl rfl rfl rfl) ?_
  refine AOps_q 16 _ rfl rfl rfl (QOp_fieldAddr_ptr _ _ _ _ _ _ 0 _ _ rfl Tryz.underlying26 rfl _ Tryz.sizeOf2 rfl rfl rfl rfl) ?_
  refine AOps_q 17 _ rfl rfl rfl (QOp_load_ptr _ _ _ _ _ _ rfl Tryz.isAgg2 rfl rfl rfl) ?_
  refine AOps_q 18 _ rfl rfl rfl (QOp_eql _ _ _ _ _ _ _ rfl rfl rfl) ?_
  refine AOps_nil ?_
  refine kI h rfl (fun h _ => ?_) (fun h _ => ?_)
  ·refine kB (fun s4 => [(0, .ptr 0 0)]) (fun s4 => [.box (seaD s4)]) h (fun s4 h => ?_) (fun s4 h => ?_)
   ·refine kR ?_
    refine kM 1 rfl ?_
    refine AOps_q 20 _ rfl rfl rfl (QOp_nilCheck_ptr _ _ _ _ rfl rfl rfl rfl) ?_
    refine AOps_q 21 _ rfl rfl rfl (QOp_fieldAddr_ptr _ _ _ _ _ _ 279 _ _ rfl Tryz.underlying70 rfl _ Tryz.sizeOf2 rfl rfl rfl rfl) ?_
    refine AOps_q 22 _ rfl rfl rfl (QOp_load_ptr _ _ _ _ _ _ rfl Tryz.isAgg2 rfl rfl (seaD_c _)) ?_
    refine AOps_q 23 _ rfl rfl rfl (QOp_eql _ _ _ _ _ _ _ rfl rfl rfl) ?_
    refine AOps_nil ?_
    refine kI h rfl (fun h _ => ?_) (fun h _ => ?_)
    ·refine (ACode_region ?_)
     refine kM 2 rfl ?_
     obtain ⟨r3, hr3, h⟩ := bindO h
     refine kC [] 26 (.vec 1 0) [.box (seaD p0), .vec 0 (intsD r3)] rfl Tryz.call69 rfl rfl (spec_l01Own_ac p1 _ hr3) rfl ?_
     refine AOps_q 27 _ rfl rfl rfl (QOp_nilCheck_ptr _ _ _ _ rfl rfl rfl rfl) ?_
     refine AOps_q 28 _ rfl rfl rfl (QOp_fieldAddr_ptr _ _ _ _ _ _ 280 _ _ rfl Tryz.underlying70 rfl _ Tryz.sizeOf40 rfl rfl rfl rfl) ?_
     refine AOps_freeze 26 1 0 _ rfl rfl ?_
     refine AOps_store1 _ _ _ _ _ _ (seaD (⟨p0.x, p0.y, p0.one, p0.two, p0.most, p0.count, r3⟩ : Sea)) _ rfl rfl rfl rfl rfl rfl rfl Tryz.sizeOf40 (by rw [seaD_length]; decide) (seaD_setf _ _) ?_
     refine AOps_nil ?_
     cases h
     exact Weak_keep 1 hm [0] [] _ _ rfl rfl rfl
    refine ACode_skip ?_
    cases h
    exact Weak_keep 1 hm [0] [] _ _ rfl rfl rfl
   refine kR ?_
   refine kM 1 rfl ?_
   refine AOps_q 30 _ rfl rfl rfl (QOp_nilCheck_ptr _ _ _ _ rfl rfl rfl rfl) ?_
   refine AOps_q 31 _ rfl rfl rfl (QOp_fieldAddr_ptr _ _ _ _ _ _ 279 _ _ rfl Tryz.underlying70 rfl _ Tryz.sizeOf2 rfl rfl rfl rfl) ?_
   refine AOps_q 32 _ rfl rfl rfl (QOp_load_ptr _ _ _ _ _ _ rfl Tryz.isAgg2 rfl rfl (seaD_c _)) ?_
   refine AOps_q 33 _ rfl rfl rfl (QOp_add _ _ _ _ _ _ _ rfl rfl rfl) ?_
   refine AOps_q 34 _ rfl rfl rfl (QOp_nilCheck_ptr _ _ _ _ rfl rfl rfl rfl) ?_
   refine AOps_q 35 _ rfl rfl rfl (QOp_fieldAddr_ptr _ _ _ _ _ _ 279 _ _ rfl Tryz.underlying70 rfl _ Tryz.sizeOf2 rfl rfl rfl rfl) ?_
   refine AOps_store1 _ _ _ _ _ _ (seaD (⟨s4.x, s4.y, s4.one, s4.two, s4.most, w64 (s4.count + 1), s4.first⟩ : Sea)) _ rfl rfl rfl rfl rfl rfl rfl Tryz.sizeOf2 (by rw [seaD_length]; decide) (seaD_setc _ _) ?_
   refine AOps_nil ?_
   refine ACode_ret ?_
   cases h
   exact ⟨_, _, fun r a w h => ⟨r, h⟩, _, _, [], _, .nil, rfl, rfl, rfl, rfl, rfl⟩
  refine ACode_skip ?_
  refine kR ?_
  refine kN 1 rfl ?_
  refine ACode_block ?_
  refine ACode_loopW (fun k0 E H => ∃ (x5 : Int) (x6 : Sea), E = [(0, .ptr 0 0), (1, .d (.sl none (intsD p1))), (2, iV p2), (6, iV (p1.length : Int)), (7, iV x5)] ∧ H = [.box (seaD x6)] ∧ spec_l06Go_l0 k self p1 p2 k0 x5 x6 = some r) k _ _ (Weak_keep 1 hm [0, 1, 2, 6, 7] [] _ _ rfl rfl rfl) ⟨_, _, rfl, rfl, h⟩ ?_
  clear h
  rintro k0 E H ⟨x5, x6, rfl, rfl, h⟩
  cases k0 with
  | zero => cases (show (none : Option (Sea)) = some _ from h)
  | succ k0 =>
   rw [spec_l06Go_l0] at h
   refine kO (fun s10 => [(0, .ptr 0 0), (1, .d (.sl none (intsD p1))), (2, iV p2), (6, iV (p1.length : Int)), (7, iV x5)]) (fun s10 => [.box (seaD x6)]) h (fun os10 h hks10 => ?_) (fun s10 h => ?_)
   ·refine kL (fun s8 => [(0, .ptr 0 0), (1, .d (.sl none (intsD p1))), (2, iV p2), (6, iV (p1.length : Int)), (7, iV x5), (53, bV s8)]) (fun s8 => [.box (seaD x6)]) h (fun s8 h => ?_) (fun s8 h => ?_)
    ·refine (ACode_quiet mixed (by kernel_rfl) ?_)
     refine kQ 2 rfl ?_
     refine AQ_q 38 _ rfl rfl rfl (QOp_nilCheck_ptr _ _ _ _ rfl rfl rfl rfl) ?_
     refine AQ_q 39 _ rfl rfl rfl (QOp_fieldAddr_ptr _ _ _ _ _ _ 0 _ _ rfl Tryz.underlying70 rfl _ Tryz.sizeOf26 rfl rfl rfl rfl) ?_
     refine AQ_q 40 _ rfl rfl rfl (QOp_fieldAddr_ptr _ _ _ _ _ _ 0 _ _ rfl Tryz.underlying26 rfl _ Tryz.sizeOf2 rfl rfl rfl rfl) ?_
     refine AQ_q 41 _ rfl rfl rfl (QOp_load_ptr _ _ _ _ _ _ rfl Tryz.isAgg2 rfl rfl rfl) ?_
     refine AQ_q 42 _ rfl rfl rfl (QOp_lss _ _ _ _ _ _ _ rfl rfl rfl) ?_
     refine kQ 1 rfl ?_
     refine AQ_case 43 _ rfl (fun hb7 => ?_) (fun hb7 => ?_)
     ·have h := iteT hb7 h
      refine kQ 1 rfl ?_
      refine AQ_q 45 _ rfl rfl rfl (QOp_nilCheck_ptr _ _ _ _ rfl rfl rfl rfl) ?_
      refine AQ_q 46 _ rfl rfl rfl (QOp_fieldAddr_ptr _ _ _ _ _ _ 279 _ _ rfl Tryz.underlying70 rfl _ Tryz.sizeOf2 rfl rfl rfl rfl) ?_
      refine AQ_q 47 _ rfl rfl rfl (QOp_load_ptr _ _ _ _ _ _ rfl Tryz.isAgg2 rfl rfl (seaD_c _)) ?_
      refine kQ 1 rfl ?_
      refine AQ_q 49 _ rfl rfl rfl (QOp_nilCheck_ptr _ _ _ _ rfl rfl rfl rfl) ?_
      refine AQ_q 50 _ rfl rfl rfl (QOp_fieldAddr_ptr _ _ _ _ _ _ 278 _ _ rfl Tryz.underlying70 rfl _ Tryz.sizeOf2 rfl rfl rfl rfl) ?_
      refine AQ_q 51 _ rfl rfl rfl (QOp_load_ptr _ _ _ _ _ _ rfl Tryz.isAgg2 rfl rfl (seaD_m _)) ?_
      refine AQ_q 52 _ rfl rfl rfl (QOp_lss _ _ _ _ _ _ _ rfl rfl rfl) ?_
      refine kQ 1 rfl ?_
      refine AQ_nil ?_
      cases h
      exact Weak_keep 1 hm [0, 1, 2, 6, 7, 53] [] _ _ rfl rfl rfl
     have h := iteF hb7 h
     refine AQ_skip 44 rfl rfl rfl ?_
     refine AQ_skip 45 rfl rfl rfl ?_
     refine AQ_skip 46 rfl rfl rfl ?_
     refine AQ_skip 47 rfl rfl rfl ?_
     refine AQ_skip 48 rfl rfl rfl ?_
     refine AQ_skip 49 rfl rfl rfl ?_
     refine AQ_skip 50 rfl rfl rfl ?_
     refine AQ_skip 51 rfl rfl rfl ?_
     refine AQ_skip 52 rfl rfl rfl ?_
     refine kQ 1 rfl ?_
     refine AQ_nil ?_
     cases h
     exact Weak_keep 1 hm [0, 1, 2, 6, 7, 53] [] _ _ rfl rfl rfl
    refine kI h rfl (fun h _ => ?_) (fun h _ => ?_)
    ·refine ACode_skip ?_
     cases h
     exact ⟨_, rfl, Weak_keep 1 hm [0, 1, 2, 6, 7] [] _ _ rfl rfl rfl⟩
    refine ACode_exit ?_
    cases h
    have h := hks10
    cases h
    exact ⟨_, _, fun r a w h => ⟨r, h⟩, _, _, [], _, .nil, rfl, rfl, rfl, rfl, rfl⟩
   refine kB (fun s33 => [(0, .ptr 0 0), (1, .d (.sl none (intsD p1))), (2, iV p2), (6, iV (p1.length : Int)), (7, iV x5)]) (fun s33 => [.box (seaD s33)]) h (fun s33 h => ?_) (fun s33 h => ?_)
   ·refine ACode_block ?_
    refine kO (fun s17 => [(0, .ptr 0 0), (1, .d (.sl none (intsD p1))), (2, iV p2), (6, iV (p1.length : Int)), (7, iV x5)]) (fun s17 => [.box (seaD x6)]) h (fun os17 h hks17 => ?_) (fun s17 h => ?_)
    ·refine kB (fun s15 => [(0, .ptr 0 0), (1, .d (.sl none (intsD p1))), (2, iV p2), (6, iV (p1.length : Int)), (7, iV x5), (78, bV s15)]) (fun s15 => [.box (seaD x6)]) h (fun s15 h => ?_) (fun s15 h => ?_)
     ·refine (ACode_quiet mixed (by kernel_rfl) ?_)
      refine kQ 2 rfl ?_
      refine AQ_q 58 _ rfl rfl rfl (QOp_conv _ _ _ _ _ _ rfl rfl Tryz.underlying78 rfl) ?_
      obtain ⟨hc11, h⟩ := guardO h
      refine AQ_q 59 _ rfl rfl rfl (QOp_shr _ _ _ _ _ _ _ _ hc11 rfl rfl rfl) ?_
      refine AQ_q 60 _ rfl rfl rfl (QOp_and _ _ _ _ _ _ _ rfl rfl rfl) ?_
      refine AQ_q 61 _ rfl rfl rfl (QOp_eql _ _ _ _ _ _ _ rfl rfl rfl) ?_
      refine kQ 1 rfl ?_
      refine AQ_case 62 _ rfl (fun hb12 => ?_) (fun hb12 => ?_)
      ·have h := iteT hb12 h
       refine AQ_skip 63 rfl rfl rfl ?_
       refine AQ_skip 64 rfl rfl rfl ?_
       refine AQ_skip 65 rfl rfl rfl ?_
       refine AQ_skip 66 rfl rfl rfl ?_
       refine AQ_skip 67 rfl rfl rfl ?_
       refine AQ_skip 68 rfl rfl rfl ?_
       refine AQ_skip 69 rfl rfl rfl ?_
       refine AQ_skip 70 rfl rfl rfl ?_
       refine AQ_skip 71 rfl rfl rfl ?_
       refine AQ_skip 72 rfl rfl rfl ?_
       refine AQ_skip 73 rfl rfl rfl ?_
       refine AQ_skip 74 rfl rfl rfl ?_
       refine AQ_skip 75 rfl rfl rfl ?_
       refine AQ_skip 76 rfl rfl rfl ?_
       refine AQ_skip 77 rfl rfl rfl ?_
       refine kQ 1 rfl ?_
       refine AQ_nil ?_
       cases h
       exact Weak_keep 1 hm [0, 1, 2, 6, 7, 78] [] _ _ rfl rfl rfl
      have h := iteF hb12 h
      refine kQ 1 rfl ?_
      refine AQ_q 64 _ rfl rfl rfl (QOp_nilCheck_ptr _ _ _ _ rfl rfl rfl rfl) ?_
      refine AQ_q 65 _ rfl rfl rfl (QOp_fieldAddr_ptr _ _ _ _ _ _ 276 _ _ rfl Tryz.underlying70 rfl _ Tryz.sizeOf40 rfl rfl rfl rfl) ?_
      refine AQ_q 66 _ rfl rfl rfl (QOp_load_ptr _ _ _ _ _ _ rfl Tryz.isAgg40 rfl rfl (seaD_a _)) ?_
      refine kQ 1 rfl ?_
      obtain ⟨hc13, h⟩ := guardO h
      refine AQ_q 68 _ rfl rfl rfl (QOp_indexAddr_sl _ _ _ _ _ _ _ _ rfl Tryz.underlying40 Tryz.sizeOf2 hc13.1 (by rw [intsD_length]; exact hc13.2) rfl rfl) ?_
      refine AQ_q 69 _ rfl rfl rfl (QOp_load_pv _ _ _ _ _ rfl Tryz.isAgg2 rfl (intsD_get _ _ 0 (by omega))) ?_
      refine kQ 1 rfl ?_
      refine AQ_q 71 _ rfl rfl rfl (QOp_nilCheck_ptr _ _ _ _ rfl rfl rfl rfl) ?_
      refine AQ_q 72 _ rfl rfl rfl (QOp_fieldAddr_ptr _ _ _ _ _ _ 277 _ _ rfl Tryz.underlying70 rfl _ Tryz.sizeOf40 rfl rfl rfl rfl) ?_
      refine AQ_q 73 _ rfl rfl rfl (QOp_load_ptr _ _ _ _ _ _ rfl Tryz.isAgg40 rfl rfl (seaD_b _)) ?_
      refine kQ 1 rfl ?_
      obtain ⟨hc14, h⟩ := guardO h
      refine AQ_q 75 _ rfl rfl rfl (QOp_indexAddr_sl _ _ _ _ _ _ _ _ rfl Tryz.underlying40 Tryz.sizeOf2 hc14.1 (by rw [intsD_length]; exact hc14.2) rfl rfl) ?_
      refine AQ_q 76 _ rfl rfl rfl (QOp_load_pv _ _ _ _ _ rfl Tryz.isAgg2 rfl (intsD_get _ _ 0 (by omega))) ?_
      refine AQ_q 77 _ rfl rfl rfl (QOp_neq _ _ _ _ _ _ _ rfl rfl rfl) ?_
      refine kQ 1 rfl ?_
      refine AQ_nil ?_
      cases h
      exact Weak_keep 1 hm [0, 1, 2, 6, 7, 78] [] _ _ rfl rfl rfl
     refine kI h rfl (fun h _ => ?_) (fun h _ => ?_)
     ·refine ACode_exit ?_
      obtain ⟨rr, hz34, h2⟩ := bindO h
      obtain rfl := Option.some.inj h2
      obtain rfl := Option.some.inj (show some rr = some _ from hks17)
      have h := hz34
      cases h
      exact Weak_keep 1 hm [0, 1, 2, 6, 7] [] _ _ rfl rfl rfl
     refine ACode_skip ?_
     cases h
     exact ⟨_, rfl, Weak_keep 1 hm [0, 1, 2, 6, 7] [] _ _ rfl rfl rfl⟩
    refine kR ?_
    refine kN 1 rfl ?_
    refine kB (fun s27 => [(0, .ptr 0 0), (1, .d (.sl none (intsD p1))), (2, iV p2), (6, iV (p1.length : Int)), (7, iV x5), (8, bV s27)]) (fun s27 => [.box (seaD x6)]) h (fun s27 h => ?_) (fun s27 h => ?_)
    ·refine kR ?_
     refine kN 1 rfl ?_
     refine ACode_block ?_
     refine ACode_loopW (fun k1 E H => ∃ (x18 : Bool) (x19 : Int), E = [(0, .ptr 0 0), (1, .d (.sl none (intsD p1))), (2, iV p2), (6, iV (p1.length : Int)), (7, iV x5), (8, bV x18), (9, iV x19)] ∧ H = [.box (seaD x6)] ∧ spec_l06Go_l1 p1 x5 x6 k1 x18 x19 = some s27) k _ _ (Weak_keep 1 hm [0, 1, 2, 6, 7, 8, 9] [] _ _ rfl rfl rfl) ⟨_, _, rfl, rfl, h⟩ ?_
     clear h
     rintro k1 E H ⟨x18, x19, rfl, rfl, h⟩
     cases k1 with
     | zero => cases (show (none : Option (Bool)) = some _ from h)
     | succ k1 =>
      rw [spec_l06Go_l1] at h
      refine kO (fun s23 => [(0, .ptr 0 0), (1, .d (.sl none (intsD p1))), (2, iV p2), (6, iV (p1.length : Int)), (7, iV x5), (9, iV x19)]) (fun s23 => [.box (seaD x6)]) h (fun os23 h hks23 => ?_) (fun s23 h => ?_)
      ·refine kL (fun s21 => [(0, .ptr 0 0), (1, .d (.sl none (intsD p1))), (2, iV p2), (6, iV (p1.length : Int)), (7, iV x5), (8, bV x18), (9, iV x19), (84, bV s21)]) (fun s21 => [.box (seaD x6)]) h (fun s21 h => ?_) (fun s21 h => ?_)
       ·refine (ACode_region ?_)
        refine kM 2 rfl ?_
        refine AOps_q 81 _ rfl rfl rfl (QOp_lss _ _ _ _ _ _ _ rfl rfl rfl) ?_
        refine kM 1 rfl ?_
        refine AOps_case 82 _ rfl (fun hb20 => ?_) (fun hb20 => ?_)
        ·have h := iteT hb20 h
         refine kN 2 rfl ?_
         cases h
         exact Weak_keep 1 hm [0, 1, 2, 6, 7, 8, 9, 84] [] _ _ rfl rfl rfl
        have h := iteF hb20 h
        refine AOps_skip 83 rfl rfl rfl ?_
        refine kN 1 rfl ?_
        cases h
        exact Weak_keep 1 hm [0, 1, 2, 6, 7, 8, 9, 84] [] _ _ rfl rfl rfl
       refine kI h rfl (fun h _ => ?_) (fun h _ => ?_)
       ·refine ACode_skip ?_
        cases h
        exact ⟨_, rfl, Weak_keep 1 hm [0, 1, 2, 6, 7, 9] [] _ _ rfl rfl rfl⟩
       refine ACode_exit ?_
       obtain ⟨rr, hz35, h2⟩ := bindO h
       obtain rfl := Option.some.inj h2
       obtain rfl := Option.some.inj (show some rr = some _ from hks23)
       have h := hz35
       cases h
       exact Weak_keep 1 hm [0, 1, 2, 6, 7, 8] [] _ _ rfl rfl rfl
      refine ACode_seq ?_
      refine ACode_block ?_
      refine (ACode_quiet mixed (by kernel_rfl) ?_)
      refine kQ 1 rfl ?_
      refine AQ_q 88 _ rfl rfl rfl (QOp_nilCheck_ptr _ _ _ _ rfl rfl rfl rfl) ?_
      refine AQ_q 89 _ rfl rfl rfl (QOp_fieldAddr_ptr _ _ _ _ _ _ 0 _ _ rfl Tryz.underlying70 rfl _ Tryz.sizeOf26 rfl rfl rfl rfl) ?_
      refine AQ_q 90 _ rfl rfl rfl (QOp_loadN_ptr _ _ _ _ _ _ _ rfl Tryz.isAgg26 Tryz.sizeOf26 rfl rfl (seaD_x _) (colD_length _)) ?_
      refine kQ 2 rfl ?_
      obtain ⟨r24, hr24, h⟩ := bindO h
      refine AQ_call 93 _ _ _ _ _ _ _ _ _ rfl rfl rfl rfl rfl rfl rfl Tryz.call70 rfl rfl rfl (spec_l01At_ac x6.x x19 (p1.length : Int) _ hr24) ?_
      refine kQ 1 rfl ?_
      refine AQ_q 95 _ rfl rfl rfl (QOp_nilCheck_ptr _ _ _ _ rfl rfl rfl rfl) ?_
      refine AQ_q 96 _ rfl rfl rfl (QOp_fieldAddr_ptr _ _ _ _ _ _ 138 _ _ rfl Tryz.underlying70 rfl _ Tryz.sizeOf26 rfl rfl rfl rfl) ?_
      refine AQ_q 97 _ rfl rfl rfl (QOp_loadN_ptr _ _ _ _ _ _ _ rfl Tryz.isAgg26 Tryz.sizeOf26 rfl rfl (seaD_y _) (colD_length _)) ?_
      refine kQ 2 rfl ?_
      obtain ⟨hc25, h⟩ := guardO h
      refine AQ_q 100 _ rfl rfl rfl (QOp_indexAddr_sl _ _ _ _ _ _ _ _ rfl Tryz.underlying40 Tryz.sizeOf2 hc25.1 (by rw [intsD_length]; exact hc25.2) rfl rfl) ?_
      refine AQ_q 101 _ rfl rfl rfl (QOp_load_pv _ _ _ _ _ rfl Tryz.isAgg2 rfl (intsD_get _ _ 0 (by omega))) ?_
      refine kQ 1 rfl ?_
      obtain ⟨r26, hr26, h⟩ := bindO h
      refine AQ_call 103 _ _ _ _ _ _ _ _ _ rfl rfl rfl rfl rfl rfl rfl Tryz.call70 rfl rfl rfl (spec_l01At_ac x6.y (p1.getD x19.toNat 0) x5 _ hr26) ?_
      refine AQ_q 104 _ rfl rfl rfl (QOp_eql _ _ _ _ _ _ _ rfl rfl rfl) ?_
      refine kQ 1 rfl ?_
      refine AQ_nil ?_
      refine (ACode_region ?_)
      refine kM 1 rfl ?_
      refine AOps_q 86 _ rfl rfl rfl (QOp_add _ _ _ _ _ _ _ rfl rfl rfl) ?_
      refine kN 1 rfl ?_
      exact ⟨k1, _, _, Nat.lt_succ_self _, Weak_keep 1 hm [0, 1, 2, 6, 7, 8, 9] [] _ _ rfl rfl rfl, _, _, rfl, rfl, h⟩
    refine kR ?_
    refine kN 1 rfl ?_
    refine kI h rfl (fun h _ => ?_) (fun h _ => ?_)
    ·refine (ACode_region ?_)
     refine kM 2 rfl ?_
     obtain ⟨r29, hr29, h⟩ := bindO h
     refine kC [] 108 (.vec 1 0) [.box (seaD x6), .vec 0 (intsD r29)] rfl Tryz.call69 rfl rfl (spec_l01Own_ac p1 _ hr29) rfl ?_
     refine kM 1 rfl ?_
     refine AOps_buildSlice 110 _ _ _ [_] (intsD ([x5])) _ rfl rfl rfl rfl rfl (by decide) Tryz.underlying40 Tryz.sizeOf2 (zero_of Tryz.typeInfo2 rfl) rfl rfl (intsD_one _) ?_
     obtain ⟨hc30, h⟩ := guardO h
     refine AOps_append 111 _ _ _ _ _ _ _ _ _ _ _ _ rfl rfl rfl rfl rfl rfl rfl Tryz.underlying40 Tryz.type2 rfl rfl rfl (by decide) rfl rfl rfl rfl (intsD_one _) (by rw [intsD_length, intsD_length]; exact hc30) ?_
     rw [intsD_app]
     refine kM 2 rfl ?_
     refine AOps_q 114 _ rfl rfl rfl (QOp_conv _ _ _ _ _ _ rfl rfl Tryz.underlying78 rfl) ?_
     obtain ⟨hc31, h⟩ := guardO h
     refine AOps_q 115 _ rfl rfl rfl (QOp_shl _ _ _ _ _ _ _ _ hc31 rfl rfl rfl) ?_
     refine AOps_q 116 _ rfl rfl rfl (QOp_or _ _ _ _ _ _ _ rfl rfl rfl) ?_
     refine AOps_freezeL [111] 1 1 _ (allc (rfl) (fun _ h => nomatch h)) rfl ?_
     obtain ⟨r32, hr32, h⟩ := bindO h
     refine kC [0] 117 (.tup []) [.box (seaD r32), .gone, .vec 0 (intsD ([x5]))] rfl Tryz.call79 rfl rfl (hself x6 (r29 ++ ([x5])) (bOr .i64 p2 (bShl .i64 1 (IntKind.u64.wrap x5))) _ hr32) rfl ?_
     refine AOps_nil ?_
     cases h
     exact Weak_keep 1 hm [0, 1, 2, 6, 7] [] _ _ rfl rfl rfl
    refine ACode_skip ?_
    cases h
    exact Weak_keep 1 hm [0, 1, 2, 6, 7] [] _ _ rfl rfl rfl
   refine (ACode_region ?_)
   refine kM 1 rfl ?_
   refine AOps_q 55 _ rfl rfl rfl (QOp_add _ _ _ _ _ _ _ rfl rfl rfl) ?_
   refine kN 1 rfl ?_
   exact ⟨k0, _, _, Nat.lt_succ_self _, Weak_keep 1 hm [0, 1, 2, 6, 7] [] _ _ rfl rfl rfl, _, _, rfl, rfl, h⟩

def spec_l06Moves_l0 (p0 : Col) : Nat → Int → (List Int) → (List Int) → Option (List Int × List Int)
 | 0, _, _, _ => none
 | k0 + 1, x1, x2, x3 => (if decide (x1 < p0.p) then (if x2.length + ([x1]).length ≤ 1099511627776 then (if x3.length + ([x1]).length ≤ 1099511627776 then spec_l06Moves_l0 p0 k0 (w64 (x1 + 1)) (x2 ++ ([x1])) (x3 ++ ([x1])) else none) else none) else some (x2, x3))
def spec_l06Moves (k : Nat) (p0 : Col) (p1 : Int) (p2 : Int) : Option (Bool) :=
 (spec_l06Moves_l0 p0 k 0 ([] : List Int) ([] : List Int) : Option (List Int × List Int)).bind fun s7 => (if 0 ≤ (0 : Int) ∧ (0 : Int) < (s7.1.length : Int) then (if 0 ≤ p1 ∧ p1 < ((s7.1.set (0 : Int).toNat p1).length : Int) then (if 0 ≤ (0 : Int) ∧ (0 : Int) < (s7.2.length : Int) then (if 0 ≤ p2 ∧ p2 < ((s7.2.set (0 : Int).toNat p2).length : Int) then (spec_l01Renamed k p0 ((s7.1.set (0 : Int).toNat p1).set p1.toNat 0)).bind fun r12 => (spec_l01Renamed k p0 ((s7.2.set (0 : Int).toNat p2).set p2.toNat 0)).bind fun r13 => (spec_l06Types k r12).bind fun r14 => (spec_l06Types k r13).bind fun r15 => ((if 0 ≤ (0 : Int) ∧ (0 : Int) < (((⟨r12, r13, r14, r15, 1, 0, []⟩ : Sea).one).length : Int) then (if 0 ≤ (0 : Int) ∧ (0 : Int) < (((⟨r12, r13, r14, r15, 1, 0, []⟩ : Sea).two).length : Int) then (if decide ((((⟨r12, r13, r14, r15, 1, 0, []⟩ : Sea).one).getD (0 : Int).toNat 0) = (((⟨r12, r13, r14, r15, 1, 0, []⟩ : Sea).two).getD (0 : Int).toNat 0)) then (spec_l06Go k (⟨r12, r13, r14, r15, 1, 0, []⟩ : Sea) ([0]) 1).bind fun r19 => some r19 else some (⟨r12, r13, r14, r15, 1, 0, []⟩ : Sea)) else none) else none) : Option (Sea)).bind fun s20 => some (decide (0 < s20.count)) else none) else none) else none) else none)
theorem spec_l06Moves_ac (k : Nat) (p0 : Col) (p1 : Int) (p2 : Int) (r : Bool) (h : spec_l06Moves k p0 p1 p2 = some r) : AC Tryz.prog 40 [.d (.agg (colD p0)), iV p1, iV p2] [] (fun res H' => res = [bV r] ∧ H' = []) := by
 refine AC_of_body true Tryz.func40 rfl Tryz.ntmps40 (rvs := [.tmp 6]) rfl rfl (fun G hG => ?_)
 have hm : G.H.length = 0 := by rw [hG]; rfl
 have hz : zeroG G.H = true := by rw [hG]; rfl
 unfold spec_l06Moves at h
 refine kR ?_
 refine AOps_boxI 3 _ _ (.agg (colD p0)) (colD p0) rfl (colD_one _) rfl rfl rfl rfl rfl ?_
 refine kN 1 rfl ?_
 refine kR ?_
 refine AOps_buildSlice 13 _ _ _ [] (intsD ([] : List Int)) _ rfl rfl rfl rfl rfl (by decide) Tryz.underlying40 Tryz.sizeOf2 (zero_of Tryz.typeInfo2 rfl) rfl rfl (intsD_one _) ?_
 refine AOps_buildSlice 14 _ _ _ [] (intsD ([] : List Int)) _ rfl rfl rfl rfl rfl (by decide) Tryz.underlying40 Tryz.sizeOf2 (zero_of Tryz.typeInfo2 rfl) rfl rfl (intsD_one _) ?_
 refine kN 2 rfl ?_
 refine kB (fun s7 => [(1, iV p1), (2, iV p2), (3, .d (.pv (colD p0) 0)), (7, .vec 0 0), (8, .vec 1 0)]) (fun s7 => [.vec 0 (intsD s7.1), .vec 0 (intsD s7.2)]) h (fun s7 h => ?_) (fun s7 h => ?_)
 ·refine kR ?_
  refine kN 1 rfl ?_
  refine ACode_block ?_
  refine ACode_loopW (fun k0 E H => ∃ (x1 : Int) (x2 : List Int) (x3 : List Int), E = [(1, iV p1), (2, iV p2), (3, .d (.pv (colD p0) 0)), (7, .vec 0 0), (8, .vec 1 0), (9, iV x1)] ∧ H = [.vec 0 (intsD x2), .vec 0 (intsD x3)] ∧ spec_l06Moves_l0 p0 k0 x1 x2 x3 = some s7) k _ _ (Weak_keep 0 hm [1, 2, 3, 7, 8, 9] [0, 1] _ _ rfl rfl rfl) ⟨_, _, _, rfl, rfl, h⟩ ?_
  clear h
  rintro k0 E H ⟨x1, x2, x3, rfl, rfl, h⟩
  cases k0 with
  | zero => cases (show (none : Option (List Int × List Int)) = some _ from h)
  | succ k0 =>
   rw [spec_l06Moves_l0] at h
   refine ACode_seq ?_
   refine kR ?_
   refine kM 1 rfl ?_
   refine AOps_q 16 _ rfl rfl rfl (QOp_fieldAddr_pv _ _ _ _ _ 0 _ _ rfl Tryz.underlying26 rfl _ Tryz.sizeOf2 rfl rfl) ?_
   refine AOps_q 17 _ rfl rfl rfl (QOp_load_pv _ _ _ _ _ rfl Tryz.isAgg2 rfl rfl) ?_
   refine AOps_q 18 _ rfl rfl rfl (QOp_lss _ _ _ _ _ _ _ rfl rfl rfl) ?_
   refine AOps_nil ?_
   refine kI h rfl (fun h _ => ?_) (fun h _ => ?_)
   ·refine ACode_skip ?_
    refine ACode_seq ?_
    refine ACode_block ?_
    refine kR ?_
    refine kM 2 rfl ?_
    refine AOps_buildSlice 23 _ _ _ [_] (intsD ([x1])) _ rfl rfl rfl rfl rfl (by decide) Tryz.underlying40 Tryz.sizeOf2 (zero_of Tryz.typeInfo2 rfl) rfl rfl (intsD_one _) ?_
    obtain ⟨hc5, h⟩ := guardO h
    refine AOps_append 24 _ _ _ _ _ _ _ _ _ _ _ _ rfl rfl rfl rfl rfl rfl rfl Tryz.underlying40 Tryz.type2 rfl rfl rfl (by decide) rfl rfl rfl rfl (intsD_one _) (by rw [intsD_length, intsD_length]; exact hc5) ?_
    rw [intsD_app]
    refine kN 1 rfl ?_
    refine (ACode_region ?_)
    refine kM 2 rfl ?_
    refine AOps_buildSlice 27 _ _ _ [_] (intsD ([x1])) _ rfl rfl rfl rfl rfl (by decide) Tryz.underlying40 Tryz.sizeOf2 (zero_of Tryz.typeInfo2 rfl) rfl rfl (intsD_one _) ?_
    obtain ⟨hc6, h⟩ := guardO h
    refine AOps_append 28 _ _ _ _ _ _ _ _ _ _ _ _ rfl rfl rfl rfl rfl rfl rfl Tryz.underlying40 Tryz.type2 rfl rfl rfl (by decide) rfl rfl rfl rfl (intsD_one _) (by rw [intsD_length, intsD_length]; exact hc6) ?_
    rw [intsD_app]
    refine kN 1 rfl ?_
    refine (ACode_region ?_)
    refine kM 1 rfl ?_
    refine AOps_q 20 _ rfl rfl rfl (QOp_add _ _ _ _ _ _ _ rfl rfl rfl) ?_
    refine kN 1 rfl ?_
    exact ⟨k0, _, _, Nat.lt_succ_self _, Weak_trans (Weak_keep 0 hm [1, 2, 3, 7, 8, 9] [0, 1] _ _ rfl rfl rfl) (Weak_reset 0 hm hz [1, 2, 3, 7, 8, 9] _ _ rfl rfl), _, _, _, rfl, rfl, h⟩
   refine ACode_exit ?_
   cases h
   exact Weak_keep 0 hm [1, 2, 3, 7, 8] [0, 1] _ _ rfl rfl rfl
 refine kR ?_
 refine kM 2 rfl ?_
 obtain ⟨hc8, h⟩ := guardO h
 refine AOps_q 31 _ rfl rfl rfl (QOp_indexAddr_vec _ _ _ _ _ _ _ _ _ rfl Tryz.underlying40 Tryz.sizeOf2 hc8.1 (by rw [intsD_length]; exact hc8.2) rfl rfl rfl) ?_
 refine AOps_store_eptr _ _ _ _ _ _ (intsD s7.1) _ rfl rfl rfl rfl rfl rfl rfl Tryz.sizeOf2 (by rw [intsD_length]; omega) ?_
 rw [intsD_set]
 refine AOps_nil ?_
 refine kR ?_
 refine kM 2 rfl ?_
 obtain ⟨hc9, h⟩ := guardO h
 refine AOps_q 34 _ rfl rfl rfl (QOp_indexAddr_vec _ _ _ _ _ _ _ _ _ rfl Tryz.underlying40 Tryz.sizeOf2 hc9.1 (by rw [intsD_length]; exact hc9.2) rfl rfl rfl) ?_
 refine AOps_store_eptr _ _ _ _ _ _ (intsD (s7.1.set (0 : Int).toNat p1)) _ rfl rfl rfl rfl rfl rfl rfl Tryz.sizeOf2 (by rw [intsD_length]; omega) ?_
 rw [intsD_set]
 refine AOps_nil ?_
 refine kR ?_
 refine kM 2 rfl ?_
 obtain ⟨hc10, h⟩ := guardO h
 refine AOps_q 37 _ rfl rfl rfl (QOp_indexAddr_vec _ _ _ _ _ _ _ _ _ rfl Tryz.underlying40 Tryz.sizeOf2 hc10.1 (by rw [intsD_length]; exact hc10.2) rfl rfl rfl) ?_
 refine AOps_store_eptr _ _ _ _ _ _ (intsD s7.2) _ rfl rfl rfl rfl rfl rfl rfl Tryz.sizeOf2 (by rw [intsD_length]; omega) ?_
 rw [intsD_set]
 refine AOps_nil ?_
 refine kR ?_
 refine kM 2 rfl ?_
 obtain ⟨hc11, h⟩ := guardO h
 refine AOps_q 40 _ rfl rfl rfl (QOp_indexAddr_vec _ _ _ _ _ _ _ _ _ rfl Tryz.underlying40 Tryz.sizeOf2 hc11.1 (by rw [intsD_length]; exact hc11.2) rfl rfl rfl) ?_
 refine AOps_store_eptr _ _ _ _ _ _ (intsD (s7.2.set (0 : Int).toNat p2)) _ rfl rfl rfl rfl rfl rfl rfl Tryz.sizeOf2 (by rw [intsD_length]; omega) ?_
 rw [intsD_set]
 refine AOps_nil ?_
 obtain ⟨r12, hr12, h⟩ := bindO h
 obtain ⟨r13, hr13, h⟩ := bindO h
 refine ACode_seq (ACode_reg [(10, .ptr 0 0), (11, .ptr 1 0)] [.box (colD r12), .box (colD r13)] ?_ ?_)
 ·refine ACode_anyU mixed ?_
  refine AU_cut 2 #[true, true, true, true, true, true, true, true, false, false] [(10, .ptr 0 0), (11, .ptr 1 0), (43, .d (.agg (colD r12))), (46, .d (.agg (colD r13)))] [.box (colD Col.zero), .box (colD Col.zero)] ?_ (fun hS0 => ?_)
  ·refine AU_one 8 (by kernel_rfl) rfl rfl ?_
   refine AOps_store _ _ _ _ _ _ (colD _) _ _ rfl rfl rfl rfl rfl rfl rfl (colD_one _) (by rw [colD_length]; exact Tryz.sizeOf26) (by rw [colD_length, colD_length]; decide) (colD_whole _ _) ?_
   refine AOps_nil ?_
   refine AU_one 9 (by kernel_rfl) rfl rfl ?_
   refine AOps_store _ _ _ _ _ _ (colD _) _ _ rfl rfl rfl rfl rfl rfl rfl (colD_one _) (by rw [colD_length]; exact Tryz.sizeOf26) (by rw [colD_length, colD_length]; decide) (colD_whole _ _) ?_
   refine AOps_nil ?_
   refine AU_done (by kernel_rfl) ?_
   exact ⟨rfl, Weak_keep 0 hm [10, 11] [0, 1] _ _ rfl rfl rfl⟩
  refine AU_cut 3 #[true, true, true, true, true, true, true, false, false, false] [(10, .ptr 0 0), (43, .d (.agg (colD r12))), (46, .d (.agg (colD r13)))] [.box (colD Col.zero)] ?_ (fun hS1 => ?_)
  ·refine AU_one 7 (by kernel_rfl) rfl rfl ?_
   refine AOps_alloc 11 _ _ (colD Col.zero) (zero_of Tryz.typeInfo26 rfl) (by rfl) rfl rfl rfl rfl ?_
   refine AOps_nil ?_
   exact AU_to (by kernel_rfl) hS0 (Weak_keep 0 hm [10, 11, 43, 46] [0, 1] _ _ rfl rfl rfl)
  refine AU_cut 3 #[true, true, true, true, true, true, false, true, false, false] [(11, .ptr 0 0), (43, .d (.agg (colD r12))), (46, .d (.agg (colD r13)))] [.box (colD Col.zero)] ?_ (fun hS2 => ?_)
  ·refine AU_one 6 (by kernel_rfl) rfl rfl ?_
   refine AOps_alloc 10 _ _ (colD Col.zero) (zero_of Tryz.typeInfo26 rfl) (by rfl) rfl rfl rfl rfl ?_
   refine AOps_nil ?_
   exact AU_to (by kernel_rfl) hS0 (Weak_keep 0 hm [10, 11, 43, 46] [1, 0] _ _ rfl rfl rfl)
  refine AU_cut 3 #[true, true, true, true, true, false, true, true, false, false] [(10, .ptr 0 0), (11, .ptr 1 0), (43, .d (.agg (colD r12))), (44, .d (.agg (colD p0))), (45, .vec 2 0)] [.box (colD Col.zero), .box (colD Col.zero), .vec 0 (intsD ((s7.2.set (0 : Int).toNat p2).set p2.toNat 0))] ?_ (fun hS3 => ?_)
  ·refine AU_one 5 (by kernel_rfl) rfl rfl ?_
   refine AOps_callL [] 46 _ _ _ _ _ _ _ _ _ _ rfl rfl rfl rfl rfl rfl rfl Tryz.call34 rfl (nodupB_sound _ rfl) rfl rfl rfl (spec_l01Renamed_ac k p0 ((s7.2.set (0 : Int).toNat p2).set p2.toNat 0) _ hr13) ?_
   rintro _ _ ⟨rfl, rfl⟩
   refine ⟨(fun _ h => nomatch h), (allc (flat_agg (colD_flat _)) (fun _ h => nomatch h)), AOps_as 46 (v' := .d (.agg (colD r13))) (H' := [.box (colD Col.zero), .box (colD Col.zero), .vec 0 (intsD ((s7.2.set (0 : Int).toNat p2).set p2.toNat 0))]) rfl rfl ?_⟩
   refine AOps_nil ?_
   exact AU_to (by kernel_rfl) hS0 (Weak_keep 0 hm [10, 11, 43, 46] [0, 1] _ _ rfl rfl rfl)
  refine AU_cut 4 #[true, true, true, true, true, false, true, false, false, false] [(10, .ptr 0 0), (43, .d (.agg (colD r12))), (44, .d (.agg (colD p0))), (45, .vec 1 0)] [.box (colD Col.zero), .vec 0 (intsD ((s7.2.set (0 : Int).toNat p2).set p2.toNat 0))] ?_ (fun hS4 => ?_)
  ·refine AU_all [5, 7] (by kernel_rfl) rfl (allc ?_ (allc ?_ (fun _ h => nomatch h)))
   ·refine US_of 5 rfl rfl ?_
    refine AOps_callL [] 46 _ _ _ _ _ _ _ _ _ _ rfl rfl rfl rfl rfl rfl rfl Tryz.call34 rfl (nodupB_sound _ rfl) rfl rfl rfl (spec_l01Renamed_ac k p0 ((s7.2.set (0 : Int).toNat p2).set p2.toNat 0) _ hr13) ?_
    rintro _ _ ⟨rfl, rfl⟩
    refine ⟨(fun _ h => nomatch h), (allc (flat_agg (colD_flat _)) (fun _ h => nomatch h)), AOps_as 46 (v' := .d (.agg (colD r13))) (H' := [.box (colD Col.zero), .vec 0 (intsD ((s7.2.set (0 : Int).toNat p2).set p2.toNat 0))]) rfl rfl ?_⟩
    refine AOps_nil ?_
    exact AU_to (by kernel_rfl) hS1 (Weak_keep 0 hm [10, 43, 46] [0] _ _ rfl rfl rfl)
   refine US_of 7 rfl rfl ?_
   refine AOps_alloc 11 _ _ (colD Col.zero) (zero_of Tryz.typeInfo26 rfl) (by rfl) rfl rfl rfl rfl ?_
   refine AOps_nil ?_
   exact AU_to (by kernel_rfl) hS3 (Weak_keep 0 hm [10, 11, 43, 44, 45] [0, 2, 1] _ _ rfl rfl rfl)
  refine AU_cut 4 #[true, true, true, true, true, false, false, true, false, false] [(11, .ptr 0 0), (43, .d (.agg (colD r12))), (44, .d (.agg (colD p0))), (45, .vec 1 0)] [.box (colD Col.zero), .vec 0 (intsD ((s7.2.set (0 : Int).toNat p2).set p2.toNat 0))] ?_ (fun hS5 => ?_)
  ·refine AU_all [5, 6] (by kernel_rfl) rfl (allc ?_ (allc ?_ (fun _ h => nomatch h)))
   ·refine US_of 5 rfl rfl ?_
    refine AOps_callL [] 46 _ _ _ _ _ _ _ _ _ _ rfl rfl rfl rfl rfl rfl rfl Tryz.call34 rfl (nodupB_sound _ rfl) rfl rfl rfl (spec_l01Renamed_ac k p0 ((s7.2.set (0 : Int).toNat p2).set p2.toNat 0) _ hr13) ?_
    rintro _ _ ⟨rfl, rfl⟩
    refine ⟨(fun _ h => nomatch h), (allc (flat_agg (colD_flat _)) (fun _ h => nomatch h)), AOps_as 46 (v' := .d (.agg (colD r13))) (H' := [.box (colD Col.zero), .vec 0 (intsD ((s7.2.set (0 : Int).toNat p2).set p2.toNat 0))]) rfl rfl ?_⟩
    refine AOps_nil ?_
    exact AU_to (by kernel_rfl) hS2 (Weak_keep 0 hm [11, 43, 46] [0] _ _ rfl rfl rfl)
   refine US_of 6 rfl rfl ?_
   refine AOps_alloc 10 _ _ (colD Col.zero) (zero_of Tryz.typeInfo26 rfl) (by rfl) rfl rfl rfl rfl ?_
   refine AOps_nil ?_
   exact AU_to (by kernel_rfl) hS3 (Weak_keep 0 hm [10, 11, 43, 44, 45] [2, 0, 1] _ _ rfl rfl rfl)
  refine AU_cut 4 #[true, true, true, false, true, false, true, true, false, false] [(3, .d (.pv (colD p0) 0)), (10, .ptr 0 0), (11, .ptr 1 0), (43, .d (.agg (colD r12))), (45, .vec 2 0)] [.box (colD Col.zero), .box (colD Col.zero), .vec 0 (intsD ((s7.2.set (0 : Int).toNat p2).set p2.toNat 0))] ?_ (fun hS6 => ?_)
  ·refine AU_one 3 (by kernel_rfl) rfl rfl ?_
   refine AOps_q 44 _ rfl rfl rfl (QOp_loadN_pv _ _ _ _ _ _ rfl Tryz.isAgg26 Tryz.sizeOf26 rfl (colD_all _) (colD_length _)) ?_
   refine AOps_nil ?_
   exact AU_to (by kernel_rfl) hS3 (Weak_keep 0 hm [10, 11, 43, 44, 45] [0, 1, 2] _ _ rfl rfl rfl)
  refine AU_cut 4 #[true, true, false, true, true, false, true, true, false, false] [(10, .ptr 0 0), (11, .ptr 1 0), (41, .d (.agg (colD p0))), (42, .vec 2 0), (44, .d (.agg (colD p0))), (45, .vec 3 0)] [.box (colD Col.zero), .box (colD Col.zero), .vec 0 (intsD ((s7.1.set (0 : Int).toNat p1).set p1.toNat 0)), .vec 0 (intsD ((s7.2.set (0 : Int).toNat p2).set p2.toNat 0))] ?_ (fun hS7 => ?_)
  ·refine AU_one 2 (by kernel_rfl) rfl rfl ?_
   refine AOps_callL [] 43 _ _ _ _ _ _ _ _ _ _ rfl rfl rfl rfl rfl rfl rfl Tryz.call34 rfl (nodupB_sound _ rfl) rfl rfl rfl (spec_l01Renamed_ac k p0 ((s7.1.set (0 : Int).toNat p1).set p1.toNat 0) _ hr12) ?_
   rintro _ _ ⟨rfl, rfl⟩
   refine ⟨(fun _ h => nomatch h), (allc (flat_agg (colD_flat _)) (fun _ h => nomatch h)), AOps_as 43 (v' := .d (.agg (colD r12))) (H' := [.box (colD Col.zero), .box (colD Col.zero), .vec 0 (intsD ((s7.1.set (0 : Int).toNat p1).set p1.toNat 0)), .vec 0 (intsD ((s7.2.set (0 : Int).toNat p2).set p2.toNat 0))]) rfl rfl ?_⟩
   refine AOps_nil ?_
   exact AU_to (by kernel_rfl) hS3 (Weak_keep 0 hm [10, 11, 43, 44, 45] [0, 1, 3] _ _ rfl rfl rfl)
  refine AU_cut 5 #[true, true, true, true, true, false, false, false, false, false] [(43, .d (.agg (colD r12))), (44, .d (.agg (colD p0))), (45, .vec 0 0)] [.vec 0 (intsD ((s7.2.set (0 : Int).toNat p2).set p2.toNat 0))] ?_ (fun hS8 => ?_)
  ·refine AU_all [5, 6, 7] (by kernel_rfl) rfl (allc ?_ (allc ?_ (allc ?_ (fun _ h => nomatch h))))
   ·refine US_of 5 rfl rfl ?_
    refine AOps_callL [] 46 _ _ _ _ _ _ _ _ _ _ rfl rfl rfl rfl rfl rfl rfl Tryz.call34 rfl (nodupB_sound _ rfl) rfl rfl rfl (spec_l01Renamed_ac k p0 ((s7.2.set (0 : Int).toNat p2).set p2.toNat 0) _ hr13) ?_
    rintro _ _ ⟨rfl, rfl⟩
    refine ⟨(fun _ h => nomatch h), (allc (flat_agg (colD_flat _)) (fun _ h => nomatch h)), AOps_as 46 (v' := .d (.agg (colD r13))) (H' := [.vec 0 (intsD ((s7.2.set (0 : Int).toNat p2).set p2.toNat 0))]) rfl rfl ?_⟩
    refine AOps_nil ?_
    refine AU_all [6, 7] (by kernel_rfl) rfl (allc ?_ (allc ?_ (fun _ h => nomatch h)))
    ·refine US_of 6 rfl rfl ?_
     refine AOps_alloc 10 _ _ (colD Col.zero) (zero_of Tryz.typeInfo26 rfl) (by rfl) rfl rfl rfl rfl ?_
     refine AOps_nil ?_
     exact AU_to (by kernel_rfl) hS1 (Weak_keep 0 hm [10, 43, 46] [1] _ _ rfl rfl rfl)
    refine US_of 7 rfl rfl ?_
    refine AOps_alloc 11 _ _ (colD Col.zero) (zero_of Tryz.typeInfo26 rfl) (by rfl) rfl rfl rfl rfl ?_
    refine AOps_nil ?_
    exact AU_to (by kernel_rfl) hS2 (Weak_keep 0 hm [11, 43, 46] [1] _ _ rfl rfl rfl)
   ·refine US_of 6 rfl rfl ?_
    refine AOps_alloc 10 _ _ (colD Col.zero) (zero_of Tryz.typeInfo26 rfl) (by rfl) rfl rfl rfl rfl ?_
    refine AOps_nil ?_
    exact AU_to (by kernel_rfl) hS4 (Weak_keep 0 hm [10, 43, 44, 45] [1, 0] _ _ rfl rfl rfl)
   refine US_of 7 rfl rfl ?_
   refine AOps_alloc 11 _ _ (colD Col.zero) (zero_of Tryz.typeInfo26 rfl) (by rfl) rfl rfl rfl rfl ?_
   refine AOps_nil ?_
   exact AU_to (by kernel_rfl) hS5 (Weak_keep 0 hm [11, 43, 44, 45] [1, 0] _ _ rfl rfl rfl)
  refine AU_cut 5 #[true, true, true, false, true, false, true, false, false, false] [(3, .d (.pv (colD p0) 0)), (10, .ptr 0 0), (43, .d (.agg (colD r12))), (45, .vec 1 0)] [.box (colD Col.zero), .vec 0 (intsD ((s7.2.set (0 : Int).toNat p2).set p2.toNat 0))] ?_ (fun hS9 => ?_)
  ·refine AU_all [3, 7] (by kernel_rfl) rfl (allc ?_ (allc ?_ (fun _ h => nomatch h)))
   ·refine US_of 3 rfl rfl ?_
    refine AOps_q 44 _ rfl rfl rfl (QOp_loadN_pv _ _ _ _ _ _ rfl Tryz.isAgg26 Tryz.sizeOf26 rfl (colD_all _) (colD_length _)) ?_
    refine AOps_nil ?_
    exact AU_to (by kernel_rfl) hS4 (Weak_keep 0 hm [10, 43, 44, 45] [0, 1] _ _ rfl rfl rfl)
   refine US_of 7 rfl rfl ?_
   refine AOps_alloc 11 _ _ (colD Col.zero) (zero_of Tryz.typeInfo26 rfl) (by rfl) rfl rfl rfl rfl ?_
   refine AOps_nil ?_
   exact AU_to (by kernel_rfl) hS6 (Weak_keep 0 hm [3, 10, 11, 43, 45] [0, 2, 1] _ _ rfl rfl rfl)
  refine AU_cut 5 #[true, true, true, false, true, false, false, true, false, false] [(3, .d (.pv (colD p0) 0)), (11, .ptr 0 0), (43, .d (.agg (colD r12))), (45, .vec 1 0)] [.box (colD Col.zero), .vec 0 (intsD ((s7.2.set (0 : Int).toNat p2).set p2.toNat 0))] ?_ (fun hS10 => ?_)
  ·refine AU_all [3, 6] (by kernel_rfl) rfl (allc ?_ (allc ?_ (fun _ h => nomatch h)))
   ·refine US_of 3 rfl rfl ?_
    refine AOps_q 44 _ rfl rfl rfl (QOp_loadN_pv _ _ _ _ _ _ rfl Tryz.isAgg26 Tryz.sizeOf26 rfl (colD_all _) (colD_length _)) ?_
    refine AOps_nil ?_
    exact AU_to (by kernel_rfl) hS5 (Weak_keep 0 hm [11, 43, 44, 45] [0, 1] _ _ rfl rfl rfl)
   refine US_of 6 rfl rfl ?_
   refine AOps_alloc 10 _ _ (colD Col.zero) (zero_of Tryz.typeInfo26 rfl) (by rfl) rfl rfl rfl rfl ?_
   refine AOps_nil ?_
   exact AU_to (by kernel_rfl) hS6 (Weak_keep 0 hm [3, 10, 11, 43, 45] [2, 0, 1] _ _ rfl rfl rfl)
  refine AU_cut 5 #[true, true, false, true, true, false, true, false, false, false] [(10, .ptr 0 0), (41, .d (.agg (colD p0))), (42, .vec 1 0), (44, .d (.agg (colD p0))), (45, .vec 2 0)] [.box (colD Col.zero), .vec 0 (intsD ((s7.1.set (0 : Int).toNat p1).set p1.toNat 0)), .vec 0 (intsD ((s7.2.set (0 : Int).toNat p2).set p2.toNat 0))] ?_ (fun hS11 => ?_)
  ·refine AU_all [2, 7] (by kernel_rfl) rfl (allc ?_ (allc ?_ (fun _ h => nomatch h)))
   ·refine US_of 2 rfl rfl ?_
    refine AOps_callL [] 43 _ _ _ _ _ _ _ _ _ _ rfl rfl rfl rfl rfl rfl rfl Tryz.call34 rfl (nodupB_sound _ rfl) rfl rfl rfl (spec_l01Renamed_ac k p0 ((s7.1.set (0 : Int).toNat p1).set p1.toNat 0) _ hr12) ?_
    rintro _ _ ⟨rfl, rfl⟩
    refine ⟨(fun _ h => nomatch h), (allc (flat_agg (colD_flat _)) (fun _ h => nomatch h)), AOps_as 43 (v' := .d (.agg (colD r12))) (H' := [.box (colD Col.zero), .vec 0 (intsD ((s7.1.set (0 : Int).toNat p1).set p1.toNat 0)), .vec 0 (intsD ((s7.2.set (0 : Int).toNat p2).set p2.toNat 0))]) rfl rfl ?_⟩
    refine AOps_nil ?_
    exact AU_to (by kernel_rfl) hS4 (Weak_keep 0 hm [10, 43, 44, 45] [0, 2] _ _ rfl rfl rfl)
   refine US_of 7 rfl rfl ?_
   refine AOps_alloc 11 _ _ (colD Col.zero) (zero_of Tryz.typeInfo26 rfl) (by rfl) rfl rfl rfl rfl ?_
   refine AOps_nil ?_
   exact AU_to (by kernel_rfl) hS7 (Weak_keep 0 hm [10, 11, 41, 42, 44, 45] [0, 3, 1, 2] _ _ rfl rfl rfl)
  refine AU_cut 5 #[true, true, false, true, true, false, false, true, false, false] [(11, .ptr 0 0), (41, .d (.agg (colD p0))), (42, .vec 1 0), (44, .d (.agg (colD p0))), (45, .vec 2 0)] [.box (colD Col.zero), .vec 0 (intsD ((s7.1.set (0 : Int).toNat p1).set p1.toNat 0)), .vec 0 (intsD ((s7.2.set (0 : Int).toNat p2).set p2.toNat 0))] ?_ (fun hS12 => ?_)
  ·refine AU_all [2, 6] (by kernel_rfl) rfl (allc ?_ (allc ?_ (fun _ h => nomatch h)))
   ·refine US_of 2 rfl rfl ?_
    refine AOps_callL [] 43 _ _ _ _ _ _ _ _ _ _ rfl rfl rfl rfl rfl rfl rfl Tryz.call34 rfl (nodupB_sound _ rfl) rfl rfl rfl (spec_l01Renamed_ac k p0 ((s7.1.set (0 : Int).toNat p1).set p1.toNat 0) _ hr12) ?_
    rintro _ _ ⟨rfl, rfl⟩
    refine ⟨(fun _ h => nomatch h), (allc (flat_agg (colD_flat _)) (fun _ h => nomatch h)), AOps_as 43 (v' := .d (.agg (colD r12))) (H' := [.box (colD Col.zero), .vec 0 (intsD ((s7.1.set (0 : Int).toNat p1).set p1.toNat 0)), .vec 0 (intsD ((s7.2.set (0 : Int).toNat p2).set p2.toNat 0))]) rfl rfl ?_⟩
    refine AOps_nil ?_
    exact AU_to (by kernel_rfl) hS5 (Weak_keep 0 hm [11, 43, 44, 45] [0, 2] _ _ rfl rfl rfl)
   refine US_of 6 rfl rfl ?_
   refine AOps_alloc 10 _ _ (colD Col.zero) (zero_of Tryz.typeInfo26 rfl) (by rfl) rfl rfl rfl rfl ?_
   refine AOps_nil ?_
   exact AU_to (by kernel_rfl) hS7 (Weak_keep 0 hm [10, 11, 41, 42, 44, 45] [3, 0, 1, 2] _ _ rfl rfl rfl)
  refine AU_cut 5 #[true, true, false, false, true, false, true, true, false, false] [(3, .d (.pv (colD p0) 0)), (10, .ptr 0 0), (11, .ptr 1 0), (41, .d (.agg (colD p0))), (42, .vec 2 0), (45, .vec 3 0)] [.box (colD Col.zero), .box (colD Col.zero), .vec 0 (intsD ((s7.1.set (0 : Int).toNat p1).set p1.toNat 0)), .vec 0 (intsD ((s7.2.set (0 : Int).toNat p2).set p2.toNat 0))] ?_ (fun hS13 => ?_)
  ·refine AU_all [2, 3] (by kernel_rfl) rfl (allc ?_ (allc ?_ (fun _ h => nomatch h)))
   ·refine US_of 2 rfl rfl ?_
    refine AOps_callL [] 43 _ _ _ _ _ _ _ _ _ _ rfl rfl rfl rfl rfl rfl rfl Tryz.call34 rfl (nodupB_sound _ rfl) rfl rfl rfl (spec_l01Renamed_ac k p0 ((s7.1.set (0 : Int).toNat p1).set p1.toNat 0) _ hr12) ?_
    rintro _ _ ⟨rfl, rfl⟩
    refine ⟨(fun _ h => nomatch h), (allc (flat_agg (colD_flat _)) (fun _ h => nomatch h)), AOps_as 43 (v' := .d (.agg (colD r12))) (H' := [.box (colD Col.zero), .box (colD Col.zero), .vec 0 (intsD ((s7.1.set (0 : Int).toNat p1).set p1.toNat 0)), .vec 0 (intsD ((s7.2.set (0 : Int).toNat p2).set p2.toNat 0))]) rfl rfl ?_⟩
    refine AOps_nil ?_
    exact AU_to (by kernel_rfl) hS6 (Weak_keep 0 hm [3, 10, 11, 43, 45] [0, 1, 3] _ _ rfl rfl rfl)
   refine US_of 3 rfl rfl ?_
   refine AOps_q 44 _ rfl rfl rfl (QOp_loadN_pv _ _ _ _ _ _ rfl Tryz.isAgg26 Tryz.sizeOf26 rfl (colD_all _) (colD_length _)) ?_
   refine AOps_nil ?_
   exact AU_to (by kernel_rfl) hS7 (Weak_keep 0 hm [10, 11, 41, 42, 44, 45] [0, 1, 2, 3] _ _ rfl rfl rfl)
  refine AU_cut 5 #[false, true, false, true, true, false, true, true, false, false] [(3, .d (.pv (colD p0) 0)), (10, .ptr 0 0), (11, .ptr 1 0), (42, .vec 2 0), (44, .d (.agg (colD p0))), (45, .vec 3 0)] [.box (colD Col.zero), .box (colD Col.zero), .vec 0 (intsD ((s7.1.set (0 : Int).toNat p1).set p1.toNat 0)), .vec 0 (intsD ((s7.2.set (0 : Int).toNat p2).set p2.toNat 0))] ?_ (fun hS14 => ?_)
  ·refine AU_one 0 (by kernel_rfl) rfl rfl ?_
   refine AOps_q 41 _ rfl rfl rfl (QOp_loadN_pv _ _ _ _ _ _ rfl Tryz.isAgg26 Tryz.sizeOf26 rfl (colD_all _) (colD_length _)) ?_
   refine AOps_nil ?_
   exact AU_to (by kernel_rfl) hS7 (Weak_keep 0 hm [10, 11, 41, 42, 44, 45] [0, 1, 2, 3] _ _ rfl rfl rfl)
  refine AU_cut 6 #[true, true, false, true, true, false, false, false, false, false] [(41, .d (.agg (colD p0))), (42, .vec 0 0), (44, .d (.agg (colD p0))), (45, .vec 1 0)] [.vec 0 (intsD ((s7.1.set (0 : Int).toNat p1).set p1.toNat 0)), .vec 0 (intsD ((s7.2.set (0 : Int).toNat p2).set p2.toNat 0))] ?_ (fun hS15 => ?_)
  ·refine AU_all [2, 6, 7] (by kernel_rfl) rfl (allc ?_ (allc ?_ (allc ?_ (fun _ h => nomatch h))))
   ·refine US_of 2 rfl rfl ?_
    refine AOps_callL [] 43 _ _ _ _ _ _ _ _ _ _ rfl rfl rfl rfl rfl rfl rfl Tryz.call34 rfl (nodupB_sound _ rfl) rfl rfl rfl (spec_l01Renamed_ac k p0 ((s7.1.set (0 : Int).toNat p1).set p1.toNat 0) _ hr12) ?_
    rintro _ _ ⟨rfl, rfl⟩
    refine ⟨(fun _ h => nomatch h), (allc (flat_agg (colD_flat _)) (fun _ h => nomatch h)), AOps_as 43 (v' := .d (.agg (colD r12))) (H' := [.vec 0 (intsD ((s7.1.set (0 : Int).toNat p1).set p1.toNat 0)), .vec 0 (intsD ((s7.2.set (0 : Int).toNat p2).set p2.toNat 0))]) rfl rfl ?_⟩
    refine AOps_nil ?_
    exact AU_to (by kernel_rfl) hS8 (Weak_keep 0 hm [43, 44, 45] [1] _ _ rfl rfl rfl)
   ·refine US_of 6 rfl rfl ?_
    refine AOps_alloc 10 _ _ (colD Col.zero) (zero_of Tryz.typeInfo26 rfl) (by rfl) rfl rfl rfl rfl ?_
    refine AOps_nil ?_
    exact AU_to (by kernel_rfl) hS11 (Weak_keep 0 hm [10, 41, 42, 44, 45] [2, 0, 1] _ _ rfl rfl rfl)
   refine US_of 7 rfl rfl ?_
   refine AOps_alloc 11 _ _ (colD Col.zero) (zero_of Tryz.typeInfo26 rfl) (by rfl) rfl rfl rfl rfl ?_
   refine AOps_nil ?_
   exact AU_to (by kernel_rfl) hS12 (Weak_keep 0 hm [11, 41, 42, 44, 45] [2, 0, 1] _ _ rfl rfl rfl)
  refine AU_cut 6 #[true, true, false, false, true, false, true, false, false, false] [(3, .d (.pv (colD p0) 0)), (10, .ptr 0 0), (41, .d (.agg (colD p0))), (42, .vec 1 0), (45, .vec 2 0)] [.box (colD Col.zero), .vec 0 (intsD ((s7.1.set (0 : Int).toNat p1).set p1.toNat 0)), .vec 0 (intsD ((s7.2.set (0 : Int).toNat p2).set p2.toNat 0))] ?_ (fun hS16 => ?_)
  ·refine AU_all [2, 3, 7] (by kernel_rfl) rfl (allc ?_ (allc ?_ (allc ?_ (fun _ h => nomatch h))))
   ·refine US_of 2 rfl rfl ?_
    refine AOps_callL [] 43 _ _ _ _ _ _ _ _ _ _ rfl rfl rfl rfl rfl rfl rfl Tryz.call34 rfl (nodupB_sound _ rfl) rfl rfl rfl (spec_l01Renamed_ac k p0 ((s7.1.set (0 : Int).toNat p1).set p1.toNat 0) _ hr12) ?_
    rintro _ _ ⟨rfl, rfl⟩
    refine ⟨(fun _ h => nomatch h), (allc (flat_agg (colD_flat _)) (fun _ h => nomatch h)), AOps_as 43 (v' := .d (.agg (colD r12))) (H' := [.box (colD Col.zero), .vec 0 (intsD ((s7.1.set (0 : Int).toNat p1).set p1.toNat 0)), .vec 0 (intsD ((s7.2.set (0 : Int).toNat p2).set p2.toNat 0))]) rfl rfl ?_⟩
    refine AOps_nil ?_
    exact AU_to (by kernel_rfl) hS9 (Weak_keep 0 hm [3, 10, 43, 45] [0, 2] _ _ rfl rfl rfl)
   ·refine US_of 3 rfl rfl ?_
    refine AOps_q 44 _ rfl rfl rfl (QOp_loadN_pv _ _ _ _ _ _ rfl Tryz.isAgg26 Tryz.sizeOf26 rfl (colD_all _) (colD_length _)) ?_
    refine AOps_nil ?_
    exact AU_to (by kernel_rfl) hS11 (Weak_keep 0 hm [10, 41, 42, 44, 45] [0, 1, 2] _ _ rfl rfl rfl)
   refine US_of 7 rfl rfl ?_
   refine AOps_alloc 11 _ _ (colD Col.zero) (zero_of Tryz.typeInfo26 rfl) (by rfl) rfl rfl rfl rfl ?_
   refine AOps_nil ?_
   exact AU_to (by kernel_rfl) hS13 (Weak_keep 0 hm [3, 10, 11, 41, 42, 45] [0, 3, 1, 2] _ _ rfl rfl rfl)
  refine AU_cut 6 #[true, true, false, false, true, false, false, true, false, false] [(3, .d (.pv (colD p0) 0)), (11, .ptr 0 0), (41, .d (.agg (colD p0))), (42, .vec 1 0), (45, .vec 2 0)] [.box (colD Col.zero), .vec 0 (intsD ((s7.1.set (0 : Int).toNat p1).set p1.toNat 0)), .vec 0 (intsD ((s7.2.set (0 : Int).toNat p2).set p2.toNat 0))] ?_ (fun hS17 => ?_)
  ·refine AU_all [2, 3, 6] (by kernel_rfl) rfl (allc ?_ (allc ?_ (allc ?_ (fun _ h => nomatch h))))
   ·refine US_of 2 rfl rfl ?_
    refine AOps_callL [] 43 _ _ _ _ _ _ _ _ _ _ rfl rfl rfl rfl rfl rfl rfl Tryz.call34 rfl (nodupB_sound _ rfl) rfl rfl rfl (spec_l01Renamed_ac k p0 ((s7.1.set (0 : Int).toNat p1).set p1.toNat 0) _ hr12) ?_
    rintro _ _ ⟨rfl, rfl⟩
    refine ⟨(fun _ h => nomatch h), (allc (flat_agg (colD_flat _)) (fun _ h => nomatch h)), AOps_as 43 (v' := .d (.agg (colD r12))) (H' := [.box (colD Col.zero), .vec 0 (intsD ((s7.1.set (0 : Int).toNat p1).set p1.toNat 0)), .vec 0 (intsD ((s7.2.set (0 : Int).toNat p2).set p2.toNat 0))]) rfl rfl ?_⟩
    refine AOps_nil ?_
    exact AU_to (by kernel_rfl) hS10 (Weak_keep 0 hm [3, 11, 43, 45] [0, 2] _ _ rfl rfl rfl)
   ·refine US_of 3 rfl rfl ?_
    refine AOps_q 44 _ rfl rfl rfl (QOp_loadN_pv _ _ _ _ _ _ rfl Tryz.isAgg26 Tryz.sizeOf26 rfl (colD_all _) (colD_length _)) ?_
    refine AOps_nil ?_
    exact AU_to (by kernel_rfl) hS12 (Weak_keep 0 hm [11, 41, 42, 44, 45] [0, 1, 2] _ _ rfl rfl rfl)
   refine US_of 6 rfl rfl ?_
   refine AOps_alloc 10 _ _ (colD Col.zero) (zero_of Tryz.typeInfo26 rfl) (by rfl) rfl rfl rfl rfl ?_
   refine AOps_nil ?_
   exact AU_to (by kernel_rfl) hS13 (Weak_keep 0 hm [3, 10, 11, 41, 42, 45] [3, 0, 1, 2] _ _ rfl rfl rfl)
  refine AU_cut 6 #[false, true, false, true, true, false, true, false, false, false] [(3, .d (.pv (colD p0) 0)), (10, .ptr 0 0), (42, .vec 1 0), (44, .d (.agg (colD p0))), (45, .vec 2 0)] [.box (colD Col.zero), .vec 0 (intsD ((s7.1.set (0 : Int).toNat p1).set p1.toNat 0)), .vec 0 (intsD ((s7.2.set (0 : Int).toNat p2).set p2.toNat 0))] ?_ (fun hS18 => ?_)
  ·refine AU_all [0, 7] (by kernel_rfl) rfl (allc ?_ (allc ?_ (fun _ h => nomatch h)))
   ·refine US_of 0 rfl rfl ?_
    refine AOps_q 41 _ rfl rfl rfl (QOp_loadN_pv _ _ _ _ _ _ rfl Tryz.isAgg26 Tryz.sizeOf26 rfl (colD_all _) (colD_length _)) ?_
    refine AOps_nil ?_
    exact AU_to (by kernel_rfl) hS11 (Weak_keep 0 hm [10, 41, 42, 44, 45] [0, 1, 2] _ _ rfl rfl rfl)
   refine US_of 7 rfl rfl ?_
   refine AOps_alloc 11 _ _ (colD Col.zero) (zero_of Tryz.typeInfo26 rfl) (by rfl) rfl rfl rfl rfl ?_
   refine AOps_nil ?_
   exact AU_to (by kernel_rfl) hS14 (Weak_keep 0 hm [3, 10, 11, 42, 44, 45] [0, 3, 1, 2] _ _ rfl rfl rfl)
  refine AU_cut 6 #[false, true, false, true, true, false, false, true, false, false] [(3, .d (.pv (colD p0) 0)), (11, .ptr 0 0), (42, .vec 1 0), (44, .d (.agg (colD p0))), (45, .vec 2 0)] [.box (colD Col.zero), .vec 0 (intsD ((s7.1.set (0 : Int).toNat p1).set p1.toNat 0)), .vec 0 (intsD ((s7.2.set (0 : Int).toNat p2).set p2.toNat 0))] ?_ (fun hS19 => ?_)
  ·refine AU_all [0, 6] (by kernel_rfl) rfl (allc ?_ (allc ?_ (fun _ h => nomatch h)))
   ·refine US_of 0 rfl rfl ?_
    refine AOps_q 41 _ rfl rfl rfl (QOp_loadN_pv _ _ _ _ _ _ rfl Tryz.isAgg26 Tryz.sizeOf26 rfl (colD_all _) (colD_length _)) ?_
    refine AOps_nil ?_
    exact AU_to (by kernel_rfl) hS12 (Weak_keep 0 hm [11, 41, 42, 44, 45] [0, 1, 2] _ _ rfl rfl rfl)
   refine US_of 6 rfl rfl ?_
   refine AOps_alloc 10 _ _ (colD Col.zero) (zero_of Tryz.typeInfo26 rfl) (by rfl) rfl rfl rfl rfl ?_
   refine AOps_nil ?_
   exact AU_to (by kernel_rfl) hS14 (Weak_keep 0 hm [3, 10, 11, 42, 44, 45] [3, 0, 1, 2] _ _ rfl rfl rfl)
  refine AU_cut 6 #[false, true, false, false, true, false, true, true, false, false] [(3, .d (.pv (colD p0) 0)), (10, .ptr 0 0), (11, .ptr 1 0), (42, .vec 2 0), (45, .vec 3 0)] [.box (colD Col.zero), .box (colD Col.zero), .vec 0 (intsD ((s7.1.set (0 : Int).toNat p1).set p1.toNat 0)), .vec 0 (intsD ((s7.2.set (0 : Int).toNat p2).set p2.toNat 0))] ?_ (fun hS20 => ?_)
  ·refine AU_all [0, 3] (by kernel_rfl) rfl (allc ?_ (allc ?_ (fun _ h => nomatch h)))
   ·refine US_of 0 rfl rfl ?_
    refine AOps_q 41 _ rfl rfl rfl (QOp_loadN_pv _ _ _ _ _ _ rfl Tryz.isAgg26 Tryz.sizeOf26 rfl (colD_all _) (colD_length _)) ?_
    refine AOps_nil ?_
    exact AU_to (by kernel_rfl) hS13 (Weak_keep 0 hm [3, 10, 11, 41, 42, 45] [0, 1, 2, 3] _ _ rfl rfl rfl)
   refine US_of 3 rfl rfl ?_
   refine AOps_q 44 _ rfl rfl rfl (QOp_loadN_pv _ _ _ _ _ _ rfl Tryz.isAgg26 Tryz.sizeOf26 rfl (colD_all _) (colD_length _)) ?_
   refine AOps_nil ?_
   exact AU_to (by kernel_rfl) hS14 (Weak_keep 0 hm [3, 10, 11, 42, 44, 45] [0, 1, 2, 3] _ _ rfl rfl rfl)
  refine AU_u 1 42 _ rfl (by kernel_rfl) rfl rfl rfl (UOp_move _ _ rfl rfl) ?_
  refine AU_u 4 45 _ rfl (by kernel_rfl) rfl rfl rfl (UOp_move _ _ rfl rfl) ?_
  refine AU_all [0, 3, 6, 7] (by kernel_rfl) rfl (allc ?_ (allc ?_ (allc ?_ (allc ?_ (fun _ h => nomatch h)))))
  ·refine US_of 0 rfl rfl ?_
   refine AOps_q 41 _ rfl rfl rfl (QOp_loadN_pv _ _ _ _ _ _ rfl Tryz.isAgg26 Tryz.sizeOf26 rfl (colD_all _) (colD_length _)) ?_
   refine AOps_nil ?_
   refine AU_all [2, 3, 6, 7] (by kernel_rfl) rfl (allc ?_ (allc ?_ (allc ?_ (allc ?_ (fun _ h => nomatch h)))))
   ·refine US_of 2 rfl rfl ?_
    refine AOps_callL [] 43 _ _ _ _ _ _ _ _ _ _ rfl rfl rfl rfl rfl rfl rfl Tryz.call34 rfl (nodupB_sound _ rfl) rfl rfl rfl (spec_l01Renamed_ac k p0 ((s7.1.set (0 : Int).toNat p1).set p1.toNat 0) _ hr12) ?_
    rintro _ _ ⟨rfl, rfl⟩
    refine ⟨(fun _ h => nomatch h), (allc (flat_agg (colD_flat _)) (fun _ h => nomatch h)), AOps_as 43 (v' := .d (.agg (colD r12))) (H' := [.vec 0 (intsD ((s7.1.set (0 : Int).toNat p1).set p1.toNat 0)), .vec 0 (intsD ((s7.2.set (0 : Int).toNat p2).set p2.toNat 0))]) rfl rfl ?_⟩
    refine AOps_nil ?_
    refine AU_all [3, 6, 7] (by kernel_rfl) rfl (allc ?_ (allc ?_ (allc ?_ (fun _ h => nomatch h))))
    ·refine US_of 3 rfl rfl ?_
     refine AOps_q 44 _ rfl rfl rfl (QOp_loadN_pv _ _ _ _ _ _ rfl Tryz.isAgg26 Tryz.sizeOf26 rfl (colD_all _) (colD_length _)) ?_
     refine AOps_nil ?_
     exact AU_to (by kernel_rfl) hS8 (Weak_keep 0 hm [43, 44, 45] [1] _ _ rfl rfl rfl)
    ·refine US_of 6 rfl rfl ?_
     refine AOps_alloc 10 _ _ (colD Col.zero) (zero_of Tryz.typeInfo26 rfl) (by rfl) rfl rfl rfl rfl ?_
     refine AOps_nil ?_
     exact AU_to (by kernel_rfl) hS9 (Weak_keep 0 hm [3, 10, 43, 45] [2, 1] _ _ rfl rfl rfl)
    refine US_of 7 rfl rfl ?_
    refine AOps_alloc 11 _ _ (colD Col.zero) (zero_of Tryz.typeInfo26 rfl) (by rfl) rfl rfl rfl rfl ?_
    refine AOps_nil ?_
    exact AU_to (by kernel_rfl) hS10 (Weak_keep 0 hm [3, 11, 43, 45] [2, 1] _ _ rfl rfl rfl)
   ·refine US_of 3 rfl rfl ?_
    refine AOps_q 44 _ rfl rfl rfl (QOp_loadN_pv _ _ _ _ _ _ rfl Tryz.isAgg26 Tryz.sizeOf26 rfl (colD_all _) (colD_length _)) ?_
    refine AOps_nil ?_
    exact AU_to (by kernel_rfl) hS15 (Weak_keep 0 hm [41, 42, 44, 45] [0, 1] _ _ rfl rfl rfl)
   ·refine US_of 6 rfl rfl ?_
    refine AOps_alloc 10 _ _ (colD Col.zero) (zero_of Tryz.typeInfo26 rfl) (by rfl) rfl rfl rfl rfl ?_
    refine AOps_nil ?_
    exact AU_to (by kernel_rfl) hS16 (Weak_keep 0 hm [3, 10, 41, 42, 45] [2, 0, 1] _ _ rfl rfl rfl)
   refine US_of 7 rfl rfl ?_
   refine AOps_alloc 11 _ _ (colD Col.zero) (zero_of Tryz.typeInfo26 rfl) (by rfl) rfl rfl rfl rfl ?_
   refine AOps_nil ?_
   exact AU_to (by kernel_rfl) hS17 (Weak_keep 0 hm [3, 11, 41, 42, 45] [2, 0, 1] _ _ rfl rfl rfl)
  ·refine US_of 3 rfl rfl ?_
   refine AOps_q 44 _ rfl rfl rfl (QOp_loadN_pv _ _ _ _ _ _ rfl Tryz.isAgg26 Tryz.sizeOf26 rfl (colD_all _) (colD_length _)) ?_
   refine AOps_nil ?_
   refine AU_all [0, 6, 7] (by kernel_rfl) rfl (allc ?_ (allc ?_ (allc ?_ (fun _ h => nomatch h))))
   ·refine US_of 0 rfl rfl ?_
    refine AOps_q 41 _ rfl rfl rfl (QOp_loadN_pv _ _ _ _ _ _ rfl Tryz.isAgg26 Tryz.sizeOf26 rfl (colD_all _) (colD_length _)) ?_
    refine AOps_nil ?_
    exact AU_to (by kernel_rfl) hS15 (Weak_keep 0 hm [41, 42, 44, 45] [0, 1] _ _ rfl rfl rfl)
   ·refine US_of 6 rfl rfl ?_
    refine AOps_alloc 10 _ _ (colD Col.zero) (zero_of Tryz.typeInfo26 rfl) (by rfl) rfl rfl rfl rfl ?_
    refine AOps_nil ?_
    exact AU_to (by kernel_rfl) hS18 (Weak_keep 0 hm [3, 10, 42, 44, 45] [2, 0, 1] _ _ rfl rfl rfl)
   refine US_of 7 rfl rfl ?_
   refine AOps_alloc 11 _ _ (colD Col.zero) (zero_of Tryz.typeInfo26 rfl) (by rfl) rfl rfl rfl rfl ?_
   refine AOps_nil ?_
   exact AU_to (by kernel_rfl) hS19 (Weak_keep 0 hm [3, 11, 42, 44, 45] [2, 0, 1] _ _ rfl rfl rfl)
  ·refine US_of 6 rfl rfl ?_
   refine AOps_alloc 10 _ _ (colD Col.zero) (zero_of Tryz.typeInfo26 rfl) (by rfl) rfl rfl rfl rfl ?_
   refine AOps_nil ?_
   refine AU_all [0, 3, 7] (by kernel_rfl) rfl (allc ?_ (allc ?_ (allc ?_ (fun _ h => nomatch h))))
   ·refine US_of 0 rfl rfl ?_
    refine AOps_q 41 _ rfl rfl rfl (QOp_loadN_pv _ _ _ _ _ _ rfl Tryz.isAgg26 Tryz.sizeOf26 rfl (colD_all _) (colD_length _)) ?_
    refine AOps_nil ?_
    exact AU_to (by kernel_rfl) hS16 (Weak_keep 0 hm [3, 10, 41, 42, 45] [2, 0, 1] _ _ rfl rfl rfl)
   ·refine US_of 3 rfl rfl ?_
    refine AOps_q 44 _ rfl rfl rfl (QOp_loadN_pv _ _ _ _ _ _ rfl Tryz.isAgg26 Tryz.sizeOf26 rfl (colD_all _) (colD_length _)) ?_
    refine AOps_nil ?_
    exact AU_to (by kernel_rfl) hS18 (Weak_keep 0 hm [3, 10, 42, 44, 45] [2, 0, 1] _ _ rfl rfl rfl)
   refine US_of 7 rfl rfl ?_
   refine AOps_alloc 11 _ _ (colD Col.zero) (zero_of Tryz.typeInfo26 rfl) (by rfl) rfl rfl rfl rfl ?_
   refine AOps_nil ?_
   exact AU_to (by kernel_rfl) hS20 (Weak_keep 0 hm [3, 10, 11, 42, 45] [2, 3, 0, 1] _ _ rfl rfl rfl)
  refine US_of 7 rfl rfl ?_
  refine AOps_alloc 11 _ _ (colD Col.zero) (zero_of Tryz.typeInfo26 rfl) (by rfl) rfl rfl rfl rfl ?_
  refine AOps_nil ?_
  refine AU_all [0, 3, 6] (by kernel_rfl) rfl (allc ?_ (allc ?_ (allc ?_ (fun _ h => nomatch h))))
  ·refine US_of 0 rfl rfl ?_
   refine AOps_q 41 _ rfl rfl rfl (QOp_loadN_pv _ _ _ _ _ _ rfl Tryz.isAgg26 Tryz.sizeOf26 rfl (colD_all _) (colD_length _)) ?_
   refine AOps_nil ?_
   exact AU_to (by kernel_rfl) hS17 (Weak_keep 0 hm [3, 11, 41, 42, 45] [2, 0, 1] _ _ rfl rfl rfl)
  ·refine US_of 3 rfl rfl ?_
   refine AOps_q 44 _ rfl rfl rfl (QOp_loadN_pv _ _ _ _ _ _ rfl Tryz.isAgg26 Tryz.sizeOf26 rfl (colD_all _) (colD_length _)) ?_
   refine AOps_nil ?_
   exact AU_to (by kernel_rfl) hS19 (Weak_keep 0 hm [3, 11, 42, 44, 45] [2, 0, 1] _ _ rfl rfl rfl)
  refine US_of 6 rfl rfl ?_
  refine AOps_alloc 10 _ _ (colD Col.zero) (zero_of Tryz.typeInfo26 rfl) (by rfl) rfl rfl rfl rfl ?_
  refine AOps_nil ?_
  exact AU_to (by kernel_rfl) hS20 (Weak_keep 0 hm [3, 10, 11, 42, 45] [3, 2, 0, 1] _ _ rfl rfl rfl)
 obtain ⟨r14, hr14, h⟩ := bindO h
 obtain ⟨r15, hr15, h⟩ := bindO h
 refine ACode_seqJ (fun E' H' => Weak 76 G E' H' [(12, .ptr 0 0)] [.box (seaD (⟨r12, r13, r14, r15, 1, 0, []⟩ : Sea))]) ?_ ?_
 ·refine ACode_any mixed ?_
  refine AAny_q 0 47 _ rfl (by kernel_rfl) rfl rfl rfl (QOp_loadN_ptr _ _ _ _ _ _ _ rfl Tryz.isAgg26 Tryz.sizeOf26 rfl rfl (colD_all _) (colD_length _)) ?_
  refine AAny_q 1 48 _ rfl (by kernel_rfl) rfl rfl rfl (QOp_loadN_ptr _ _ _ _ _ _ _ rfl Tryz.isAgg26 Tryz.sizeOf26 rfl rfl (colD_all _) (colD_length _)) ?_
  refine AAny_q 2 49 _ rfl (by kernel_rfl) rfl rfl rfl (QOp_loadN_ptr _ _ _ _ _ _ _ rfl Tryz.isAgg26 Tryz.sizeOf26 rfl rfl (colD_all _) (colD_length _)) ?_
  refine AAny_q 4 51 _ rfl (by kernel_rfl) rfl rfl rfl (QOp_loadN_ptr _ _ _ _ _ _ _ rfl Tryz.isAgg26 Tryz.sizeOf26 rfl rfl (colD_all _) (colD_length _)) ?_
  refine AAny_all [3] (by kernel_rfl) rfl (allc ?_ (fun _ h => nomatch h))
  refine AStep_callN 3 50 _ _ _ _ _ _ _ _ _ rfl rfl rfl rfl rfl rfl rfl rfl Tryz.call78 rfl rfl rfl (spec_l06Types_ac k r12 _ hr14) ?_
  rintro _ _ ⟨rfl, rfl⟩
  refine ⟨(allc (fun _ _ => trivial) (fun _ h => nomatch h)), (allc (trivial) (fun _ h => nomatch h)), AAny_as 50 (v' := .vec 2 0) (H' := [.box (colD r12), .box (colD r13), .vec 0 (intsD r14)]) rfl rfl ?_⟩
  refine AAny_all [5] (by kernel_rfl) rfl (allc ?_ (fun _ h => nomatch h))
  refine AStep_callN 5 52 _ _ _ _ _ _ _ _ _ rfl rfl rfl rfl rfl rfl rfl rfl Tryz.call78 rfl rfl rfl (spec_l06Types_ac k r13 _ hr15) ?_
  rintro _ _ ⟨rfl, rfl⟩
  refine ⟨(allc (fun _ _ => trivial) (fun _ h => nomatch h)), (allc (trivial) (fun _ h => nomatch h)), AAny_as 52 (v' := .vec 3 0) (H' := [.box (colD r12), .box (colD r13), .vec 0 (intsD r14), .vec 0 (intsD r15)]) rfl rfl ?_⟩
  refine AAny_freeze 50 2 0 _ rfl rfl ?_
  refine AAny_freeze 52 3 0 _ rfl rfl ?_
  refine AAny_q 6 53 _ rfl (by kernel_rfl) rfl rfl rfl (QOp_build _ _ [_, _, _, _, _] [0, 1, 2, 3, 4] [.agg (colD r12), .agg (colD r13), .sl none (intsD r14), .sl none (intsD r15), iD 1] _ seaZ (seaN (⟨r12, r13, r14, r15, 1, 0, []⟩ : Sea)) [(0, 138), (138, 138), (276, 1), (277, 1), (278, 1), (279, 1), (280, 1)] rfl rfl Tryz.underlying70 (zero_of Tryz.typeInfo70 rfl) (fun w => by simp [Tryz.sizeOf26, Tryz.sizeOf40, Tryz.sizeOf2]) rfl (by rfl) (sea_fillB r12 r13 r14 r15 1) (allc (colD_cellsOK _) (allc (colD_cellsOK _) (allc (ok1 rfl) (allc (ok1 rfl) (allc (ok1 rfl) (fun _ h => nomatch h))))))) ?_
  refine AAny_all [7] (by kernel_rfl) rfl (allc ?_ (fun _ h => nomatch h))
  refine AStep_of 7 rfl rfl (Bl_box _ _ rfl) ?_
  refine AOps_weak (Weak_aggdrop 53 280 _ _ _ (seaD (⟨r12, r13, r14, r15, 1, 0, []⟩ : Sea)) rfl (seaN_f _) (seaN_drop _ rfl rfl)) ?_
  refine AOps_boxM 54 _ _ (.agg (seaD (⟨r12, r13, r14, r15, 1, 0, []⟩ : Sea))) (seaD (⟨r12, r13, r14, r15, 1, 0, []⟩ : Sea)) rfl (seaD_one _) rfl rfl rfl rfl rfl ?_
  refine AOps_nil ?_
  refine AAny_q 8 12 _ rfl (by kernel_rfl) rfl rfl rfl (QOp_assign _ _ rfl rfl) ?_
  refine AAny_done (by kernel_rfl) ?_
  exact Weak_keep 0 hm [12] [4] _ _ rfl rfl rfl
 intro E' H' hw
 refine ACode_weak hw ?_
 refine kB (fun s20 => [(12, .ptr 0 0)]) (fun s20 => [.box (seaD s20)]) h (fun s20 h => ?_) (fun s20 h => ?_)
 ·refine ACode_seq (ACode_quiet mixed (by kernel_rfl) ?_)
  refine kQ 1 rfl ?_
  refine AQ_q 56 _ rfl rfl rfl (QOp_nilCheck_ptr _ _ _ _ rfl rfl rfl rfl) ?_
  refine AQ_q 57 _ rfl rfl rfl (QOp_fieldAddr_ptr _ _ _ _ _ _ 276 _ _ rfl Tryz.underlying70 rfl _ Tryz.sizeOf40 rfl rfl rfl rfl) ?_
  refine AQ_q 58 _ rfl rfl rfl (QOp_load_ptr _ _ _ _ _ _ rfl Tryz.isAgg40 rfl rfl (seaD_a _)) ?_
  obtain ⟨hc16, h⟩ := guardO h
  refine AQ_q 59 _ rfl rfl rfl (QOp_indexAddr_sl _ _ _ _ _ _ _ _ rfl Tryz.underlying40 Tryz.sizeOf2 hc16.1 (by rw [intsD_length]; exact hc16.2) rfl rfl) ?_
  refine AQ_q 60 _ rfl rfl rfl (QOp_load_pv _ _ _ _ _ rfl Tryz.isAgg2 rfl (intsD_get _ _ 0 (by omega))) ?_
  refine kQ 1 rfl ?_
  refine AQ_q 62 _ rfl rfl rfl (QOp_nilCheck_ptr _ _ _ _ rfl rfl rfl rfl) ?_
  refine AQ_q 63 _ rfl rfl rfl (QOp_fieldAddr_ptr _ _ _ _ _ _ 277 _ _ rfl Tryz.underlying70 rfl _ Tryz.sizeOf40 rfl rfl rfl rfl) ?_
  refine AQ_q 64 _ rfl rfl rfl (QOp_load_ptr _ _ _ _ _ _ rfl Tryz.isAgg40 rfl rfl (seaD_b _)) ?_
  obtain ⟨hc17, h⟩ := guardO h
  refine AQ_q 65 _ rfl rfl rfl (QOp_indexAddr_sl _ _ _ _ _ _ _ _ rfl Tryz.underlying40 Tryz.sizeOf2 hc17.1 (by rw [intsD_length]; exact hc17.2) rfl rfl) ?_
  refine AQ_q 66 _ rfl rfl rfl (QOp_load_pv _ _ _ _ _ rfl Tryz.isAgg2 rfl (intsD_get _ _ 0 (by omega))) ?_
  refine AQ_q 67 _ rfl rfl rfl (QOp_eql _ _ _ _ _ _ _ rfl rfl rfl) ?_
  refine AQ_nil ?_
  refine kI h rfl (fun h _ => ?_) (fun h _ => ?_)
  ·refine (ACode_region ?_)
   refine kM 1 rfl ?_
   refine AOps_buildSlice 69 _ _ _ [_] (intsD ([0])) _ rfl rfl rfl rfl rfl (by decide) Tryz.underlying40 Tryz.sizeOf2 (zero_of Tryz.typeInfo2 rfl) rfl rfl (intsD_one _) ?_
   refine AOps_freezeL [69] 1 0 _ (allc (rfl) (fun _ h => nomatch h)) rfl ?_
   obtain ⟨r19, hr19, h⟩ := bindO h
   refine kC [0] 70 (.tup []) [.box (seaD r19), .gone] rfl Tryz.call79 rfl rfl (spec_l06Go_ac k (⟨r12, r13, r14, r15, 1, 0, []⟩ : Sea) ([0]) 1 _ hr19) rfl ?_
   refine AOps_nil ?_
   cases h
   exact Weak_keep 0 hm [12] [0] _ _ rfl rfl rfl
  refine ACode_skip ?_
  cases h
  exact Weak_keep 0 hm [12] [0] _ _ rfl rfl rfl
 refine kR ?_
 refine kM 1 rfl ?_
 refine AOps_q 72 _ rfl rfl rfl (QOp_nilCheck_ptr _ _ _ _ rfl rfl rfl rfl) ?_
 refine AOps_q 73 _ rfl rfl rfl (QOp_fieldAddr_ptr _ _ _ _ _ _ 279 _ _ rfl Tryz.underlying70 rfl _ Tryz.sizeOf2 rfl rfl rfl rfl) ?_
 refine AOps_q 74 _ rfl rfl rfl (QOp_load_ptr _ _ _ _ _ _ rfl Tryz.isAgg2 rfl rfl (seaD_c _)) ?_
 refine AOps_q 75 _ rfl rfl rfl (QOp_gtr _ _ _ _ _ _ _ rfl rfl rfl) ?_
 refine kN 1 rfl ?_
 refine ACode_ret ?_
 cases h
 exact ⟨_, _, fun r a w h => ⟨r, h⟩, _, _, [], _, (.cons (ResV_tmp _ _ rfl) .nil), rfl, rfl, rfl, rfl, rfl⟩

end Go.Proofs.YtldgmcghdohmeaaGreat
