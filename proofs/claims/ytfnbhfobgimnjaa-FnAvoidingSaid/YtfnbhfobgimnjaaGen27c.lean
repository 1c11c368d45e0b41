/- Plain functions of the program and that the program computes them: printed by the own tool gen.py. No conditions. -/
import Derived.Test.YtfnbhfobgimnjaaGen27b
set_option linter.unusedVariables false
set_option linter.unusedSimpArgs false
namespace Go.Proofs.Ytfnbhfobgimnjaa
open Go Go.RowKit Ab

-- loop.example/g01362/spec.l01Names
def spec_l01Names : List ByteArray :=
 [(⟨#[112, 101, 110, 116, 97, 103, 111, 110]⟩ : ByteArray), (⟨#[101, 105, 103, 104, 116]⟩ : ByteArray), (⟨#[116, 104, 105, 114, 116, 101, 101, 110]⟩ : ByteArray), (⟨#[115, 101, 118, 101, 110, 116, 101, 101, 110]⟩ : ByteArray), (⟨#[115, 105, 120, 116, 101, 101, 110]⟩ : ByteArray)]
set_option maxRecDepth 100000 in
theorem spec_l01Names_ac : AC Try.prog 127 [] [] (fun res H' => res = [.vec 0 0] ∧ H' = [.vec 0 (stsD (spec_l01Names))]) := by
 refine AC_of_body true Try.func127 rfl Try.ntmps127 (rvs := [.tmp 0]) rfl rfl (fun G hG => ?_)
 have hm : G.H.length = 0 := by rw [hG]; rfl
 have hz : zeroG G.H = true := by rw [hG]; rfl
 obtain ⟨r, h⟩ : ∃ r, spec_l01Names = r := ⟨_, rfl⟩
 rw [h]
 unfold spec_l01Names at h
 refine kR ?_
 refine kN 1 rfl ?_
 refine kR ?_
 refine AOps_buildSlice 1 _ _ _ [_, _, _, _, _] (stsD ([(⟨#[112, 101, 110, 116, 97, 103, 111, 110]⟩ : ByteArray), (⟨#[101, 105, 103, 104, 116]⟩ : ByteArray), (⟨#[116, 104, 105, 114, 116, 101, 101, 110]⟩ : ByteArray), (⟨#[115, 101, 118, 101, 110, 116, 101, 101, 110]⟩ : ByteArray), (⟨#[115, 105, 120, 116, 101, 101, 110]⟩ : ByteArray)])) _ rfl rfl rfl rfl rfl (by decide) Try.underlying122 Try.sizeOf9 (zero_of Try.typeInfo9 rfl) rfl rfl (stsD_one _) ?_
 refine kN 1 rfl ?_
 refine ACode_ret ?_
 cases h
 exact ⟨_, _, Weak_reset 0 hm hz [0] _ _ rfl rfl, _, _, [0], _, (.cons (ResV_tmp _ _ rfl) .nil), rfl, rfl, rfl, rfl, rfl⟩

-- loop.example/g01362/spec.l01Circle
def spec_l01Circle_l2 (p1 : List Int) (x1 : Int) (x4 : Int) : Nat → UInt8 → Int → Option (UInt8)
 | 0, _, _ => none
 | k2 + 1, x7, x8 => (if decide (x8 < (p1.length : Int)) then ((if 0 ≤ x8 ∧ x8 < (p1.length : Int) then (if decide ((p1.getD x8.toNat 0) = w64 (x1 - x4)) then some (0 : UInt8) else some x7) else none) : Option (UInt8)).bind fun s12 => spec_l01Circle_l2 p1 x1 x4 k2 s12 (w64 (x8 + 1)) else some x7)
def spec_l01Circle_l1 (k : Nat) (p1 : List Int) (x1 : Int) : Nat → Int → Col → Option (Col)
 | 0, _, _ => none
 | k1 + 1, x4, x5 => (if decide (x4 < x1) then ((spec_l01Circle_l2 p1 x1 x4 k (1 : UInt8) 0 : Option (UInt8)).bind fun s13 => (if 0 ≤ (spec_l01Edge x4 x1) ∧ (spec_l01Edge x4 x1) < 136 then some (x5.set ((spec_l01Edge x4 x1).toNat) s13) else none) : Option (Col)).bind fun s16 => spec_l01Circle_l1 k p1 x1 k1 (w64 (x4 + 1)) s16 else some x5)
def spec_l01Circle_l0 (k : Nat) (p0 : Int) (p1 : List Int) : Nat → Int → Col → Option (Col)
 | 0, _, _ => none
 | k0 + 1, x1, x2 => (if decide (x1 < p0) then (spec_l01Circle_l1 k p1 x1 k 0 x2 : Option (Col)).bind fun s17 => spec_l01Circle_l0 k p0 p1 k0 (w64 (x1 + 1)) s17 else some x2)
def spec_l01Circle (k : Nat) (p0 : Int) (p1 : List Int) : Option (Col) :=
 (spec_l01Circle_l0 k p0 p1 k 1 (⟨p0, 2, B136.zero⟩ : Col) : Option (Col)).bind fun s18 => some s18
set_option maxRecDepth 100000 in
theorem spec_l01Circle_ac (k : Nat) (p0 : Int) (p1 : List Int) (r : Col) (h : spec_l01Circle k p0 p1 = some r) : AC Try.prog 139 [iV p0, .d (.sl none (intsD p1))] [] (fun res H' => res = [.d (.agg (colD r))] ∧ H' = []) := by
 refine AC_of_body true Try.func139 rfl Try.ntmps139 (rvs := [.cell 4 29]) rfl rfl (fun G hG => ?_)
 have hm : G.H.length = 0 := by rw [hG]; rfl
 have hz : zeroG G.H = true := by rw [hG]; rfl
 unfold spec_l01Circle at h
 refine kR ?_
 refine AOps_alloc 4 _ _ (colD Col.zero) (zero_of Try.typeInfo29 rfl) (by rfl) rfl rfl rfl rfl ?_
 refine AOps_nil ?_
 refine kR ?_
 refine kM 1 rfl ?_
 refine AOps_q 11 _ rfl rfl rfl (QOp_build _ _ [_, _] [0, 1] [iD p0, iD 2] _ (colD Col.zero) (colD (⟨p0, 2, B136.zero⟩ : Col)) [(0, 1), (1, 1), (2, 136)] rfl rfl Try.underlying29 (zero_of Try.typeInfo29 rfl) (fun w => by simp [Try.sizeOf2, Try.sizeOf2, Try.sizeOf27]) rfl (by rfl) (by rfl) (allc (ok1 rfl) (allc (ok1 rfl) (fun _ h => nomatch h)))) ?_
 refine AOps_alloc 5 _ _ (colD Col.zero) (zero_of Try.typeInfo29 rfl) (by rfl) rfl rfl rfl rfl ?_
 refine AOps_store _ _ _ _ _ _ (colD _) _ _ rfl rfl rfl rfl rfl rfl rfl (colD_one _) (by rw [colD_length]; exact Try.sizeOf29) (by rw [colD_length, colD_length]; decide) (colD_whole _ _) ?_
 refine AOps_nil ?_
 refine kB (fun s18 => [(4, .ptr 0 0), (5, .ptr 1 0)]) (fun s18 => [.box (colD Col.zero), .box (colD s18)]) h (fun s18 h => ?_) (fun s18 h => ?_)
 ·refine kR ?_
  refine kN 1 rfl ?_
  refine ACode_block ?_
  refine ACode_loopW (fun k0 E H => ∃ (x1 : Int) (x2 : Col), E = [(0, iV p0), (1, .d (.sl none (intsD p1))), (4, .ptr 0 0), (5, .ptr 1 0), (6, iV x1)] ∧ H = [.box (colD Col.zero), .box (colD x2)] ∧ spec_l01Circle_l0 k p0 p1 k0 x1 x2 = some s18) k _ _ (Weak_keep 0 hm [0, 1, 4, 5, 6] [0, 1] _ _ rfl rfl rfl) ⟨_, _, rfl, rfl, h⟩ ?_
  clear h
  rintro k0 E H ⟨x1, x2, rfl, rfl, h⟩
  cases k0 with
  | zero => cases (show (none : Option (Col)) = some _ from h)
  | succ k0 =>
   rw [spec_l01Circle_l0] at h
   refine ACode_seq ?_
   refine kR ?_
   refine kM 2 rfl ?_
   refine AOps_q 14 _ rfl rfl rfl (QOp_lss _ _ _ _ _ _ _ rfl rfl rfl) ?_
   refine AOps_nil ?_
   refine kI h rfl (fun h _ => ?_) (fun h _ => ?_)
   ·refine ACode_skip ?_
    refine kB (fun s17 => [(0, iV p0), (1, .d (.sl none (intsD p1))), (4, .ptr 0 0), (5, .ptr 1 0), (6, iV x1)]) (fun s17 => [.box (colD Col.zero), .box (colD s17)]) h (fun s17 h => ?_) (fun s17 h => ?_)
    ·refine ACode_block ?_
     refine kR ?_
     refine kN 1 rfl ?_
     refine ACode_block ?_
     refine ACode_loopW (fun k1 E H => ∃ (x4 : Int) (x5 : Col), E = [(0, iV p0), (1, .d (.sl none (intsD p1))), (4, .ptr 0 0), (5, .ptr 1 0), (6, iV x1), (7, iV x4)] ∧ H = [.box (colD Col.zero), .box (colD x5)] ∧ spec_l01Circle_l1 k p1 x1 k1 x4 x5 = some s17) k _ _ (Weak_keep 0 hm [0, 1, 4, 5, 6, 7] [0, 1] _ _ rfl rfl rfl) ⟨_, _, rfl, rfl, h⟩ ?_
     clear h
     rintro k1 E H ⟨x4, x5, rfl, rfl, h⟩
     cases k1 with
     | zero => cases (show (none : Option (Col)) = some _ from h)
     | succ k1 =>
      rw [spec_l01Circle_l1] at h
      refine ACode_seq ?_
      refine kR ?_
      refine kM 2 rfl ?_
      refine AOps_q 19 _ rfl rfl rfl (QOp_lss _ _ _ _ _ _ _ rfl rfl rfl) ?_
      refine AOps_nil ?_
      refine kI h rfl (fun h _ => ?_) (fun h _ => ?_)
      ·refine ACode_skip ?_
       refine kB (fun s16 => [(0, iV p0), (1, .d (.sl none (intsD p1))), (4, .ptr 0 0), (5, .ptr 1 0), (6, iV x1), (7, iV x4)]) (fun s16 => [.box (colD Col.zero), .box (colD s16)]) h (fun s16 h => ?_) (fun s16 h => ?_)
       ·refine ACode_block ?_
        refine kR ?_
        refine kN 1 rfl ?_
        refine kB (fun s13 => [(0, iV p0), (1, .d (.sl none (intsD p1))), (4, .ptr 0 0), (5, .ptr 1 0), (6, iV x1), (7, iV x4), (8, .d (uD s13))]) (fun s13 => [.box (colD Col.zero), .box (colD x5)]) h (fun s13 h => ?_) (fun s13 h => ?_)
        ·refine kR ?_
         refine kN 1 rfl ?_
         refine ACode_block ?_
         refine ACode_loopW (fun k2 E H => ∃ (x7 : UInt8) (x8 : Int), E = [(0, iV p0), (1, .d (.sl none (intsD p1))), (4, .ptr 0 0), (5, .ptr 1 0), (6, iV x1), (7, iV x4), (8, .d (uD x7)), (9, iV x8)] ∧ H = [.box (colD Col.zero), .box (colD x5)] ∧ spec_l01Circle_l2 p1 x1 x4 k2 x7 x8 = some s13) k _ _ (Weak_keep 0 hm [0, 1, 4, 5, 6, 7, 8, 9] [0, 1] _ _ rfl rfl rfl) ⟨_, _, rfl, rfl, h⟩ ?_
         clear h
         rintro k2 E H ⟨x7, x8, rfl, rfl, h⟩
         cases k2 with
         | zero => cases (show (none : Option (UInt8)) = some _ from h)
         | succ k2 =>
          rw [spec_l01Circle_l2] at h
          refine ACode_seq ?_
          refine kR ?_
          refine kM 2 rfl ?_
          refine AOps_q 24 _ rfl rfl rfl (QOp_len_sl _ _ _ _ _ _ _ (intsD_length _) rfl rfl rfl rfl Try.underlying24 rfl) ?_
          refine AOps_q 25 _ rfl rfl rfl (QOp_lss _ _ _ _ _ _ _ rfl rfl rfl) ?_
          refine AOps_nil ?_
          refine kI h rfl (fun h _ => ?_) (fun h _ => ?_)
          ·refine ACode_skip ?_
           refine kB (fun s12 => [(0, iV p0), (1, .d (.sl none (intsD p1))), (4, .ptr 0 0), (5, .ptr 1 0), (6, iV x1), (7, iV x4), (8, .d (uD s12)), (9, iV x8)]) (fun s12 => [.box (colD Col.zero), .box (colD x5)]) h (fun s12 h => ?_) (fun s12 h => ?_)
           ·refine ACode_block ?_
            refine kR ?_
            refine kM 2 rfl ?_
            obtain ⟨hc10, h⟩ := guardO h
            refine AOps_q 30 _ rfl rfl rfl (QOp_indexAddr_sl _ _ _ _ _ _ _ _ rfl Try.underlying24 Try.sizeOf2 hc10.1 (by rw [intsD_length]; exact hc10.2) rfl rfl) ?_
            refine AOps_q 31 _ rfl rfl rfl (QOp_load_pv _ _ _ _ _ rfl Try.isAgg2 rfl (intsD_get _ _ 0 (by omega))) ?_
            refine kM 2 rfl ?_
            refine AOps_q 34 _ rfl rfl rfl (QOp_sub _ _ _ _ _ _ _ rfl rfl rfl) ?_
            refine AOps_q 35 _ rfl rfl rfl (QOp_eql _ _ _ _ _ _ _ rfl rfl rfl) ?_
            refine AOps_nil ?_
            refine kI h rfl (fun h _ => ?_) (fun h _ => ?_)
            ·refine (ACode_region ?_)
             refine kN 1 rfl ?_
             cases h
             exact Weak_keep 0 hm [0, 1, 4, 5, 6, 7, 8, 9] [0, 1] _ _ rfl rfl rfl
            refine ACode_skip ?_
            cases h
            exact Weak_keep 0 hm [0, 1, 4, 5, 6, 7, 8, 9] [0, 1] _ _ rfl rfl rfl
           refine (ACode_region ?_)
           refine kM 1 rfl ?_
           refine AOps_q 27 _ rfl rfl rfl (QOp_add _ _ _ _ _ _ _ rfl rfl rfl) ?_
           refine kN 1 rfl ?_
           exact ⟨k2, _, _, Nat.lt_succ_self _, Weak_keep 0 hm [0, 1, 4, 5, 6, 7, 8, 9] [0, 1] _ _ rfl rfl rfl, _, _, rfl, rfl, h⟩
          refine ACode_exit ?_
          cases h
          exact Weak_keep 0 hm [0, 1, 4, 5, 6, 7, 8] [0, 1] _ _ rfl rfl rfl
        refine (ACode_region ?_)
        refine kM 2 rfl ?_
        refine kC [] 38 (iV (spec_l01Edge x4 x1)) [.box (colD Col.zero), .box (colD x5)] rfl Try.call110 rfl rfl (spec_l01Edge_ac x4 x1) rfl ?_
        refine kM 1 rfl ?_
        refine AOps_q 40 _ rfl rfl rfl (QOp_fieldAddr_ptr _ _ _ _ _ _ 2 _ _ rfl Try.underlying29 rfl _ Try.sizeOf27 rfl rfl rfl rfl) ?_
        obtain ⟨hc15, h⟩ := guardO h
        refine AOps_q 41 _ rfl rfl rfl (QOp_indexAddrA_ptr _ _ _ _ _ _ _ _ _ _ rfl Try.underlying27 Try.sizeOf5 hc15.1 hc15.2 rfl rfl rfl rfl) ?_
        refine AOps_store1 _ _ _ _ _ _ (colD (x5.set ((spec_l01Edge x4 x1).toNat) s13)) _ rfl rfl rfl rfl rfl rfl rfl Try.sizeOf5 (by rw [colD_length]; omega) (colD_setE x5 ((spec_l01Edge x4 x1).toNat) s13) ?_
        refine AOps_nil ?_
        cases h
        exact Weak_keep 0 hm [0, 1, 4, 5, 6, 7] [0, 1] _ _ rfl rfl rfl
       refine (ACode_region ?_)
       refine kM 1 rfl ?_
       refine AOps_q 21 _ rfl rfl rfl (QOp_add _ _ _ _ _ _ _ rfl rfl rfl) ?_
       refine kN 1 rfl ?_
       exact ⟨k1, _, _, Nat.lt_succ_self _, Weak_keep 0 hm [0, 1, 4, 5, 6, 7] [0, 1] _ _ rfl rfl rfl, _, _, rfl, rfl, h⟩
      refine ACode_exit ?_
      cases h
      exact Weak_keep 0 hm [0, 1, 4, 5, 6] [0, 1] _ _ rfl rfl rfl
    refine (ACode_region ?_)
    refine kM 1 rfl ?_
    refine AOps_q 16 _ rfl rfl rfl (QOp_add _ _ _ _ _ _ _ rfl rfl rfl) ?_
    refine kN 1 rfl ?_
    exact ⟨k0, _, _, Nat.lt_succ_self _, Weak_keep 0 hm [0, 1, 4, 5, 6] [0, 1] _ _ rfl rfl rfl, _, _, rfl, rfl, h⟩
   refine ACode_exit ?_
   cases h
   exact Weak_keep 0 hm [4, 5] [0, 1] _ _ rfl rfl rfl
 refine kR ?_
 refine AOps_q 42 _ rfl rfl rfl (QOp_loadN_ptr _ _ _ _ _ _ _ rfl Try.isAgg29 Try.sizeOf29 rfl rfl (colD_all _) (colD_length _)) ?_
 refine AOps_store _ _ _ _ _ _ (colD _) _ _ rfl rfl rfl rfl rfl rfl rfl (colD_one _) (by rw [colD_length]; exact Try.sizeOf29) (by rw [colD_length, colD_length]; decide) (colD_whole _ _) ?_
 refine AOps_nil ?_
 refine ACode_ret ?_
 cases h
 exact ⟨_, _, fun r a w h => ⟨r, h⟩, _, _, [], _, (.cons (ResV_agg _ _ _ _ _ _ Try.isAgg29 Try.sizeOf29 rfl rfl (colD_take _) (colD_length _)) .nil), rfl, rfl, rfl, rfl, rfl⟩

-- loop.example/g01362/spec.l01Named
def spec_l01Named_l1 (x10 : Int) : Nat → Int → Col → Option (Col)
 | 0, _, _ => none
 | k1 + 1, x13, x14 => (if decide (x13 < x10) then (if 0 ≤ bXor .i64 x13 x10 ∧ bXor .i64 x13 x10 < (([0, 0, 1, 1, 2, 2, 2, 1, 0, 2, 0, 1, 0, 1, 2, 0]).length : Int) then (if 0 ≤ (spec_l01Edge x13 x10) ∧ (spec_l01Edge x13 x10) < 136 then spec_l01Named_l1 x10 k1 (w64 (x13 + 1)) (x14.set ((spec_l01Edge x13 x10).toNat) (([0, 0, 1, 1, 2, 2, 2, 1, 0, 2, 0, 1, 0, 1, 2, 0]).getD (bXor .i64 x13 x10).toNat 0)) else none) else none) else some x14)
def spec_l01Named_l0 (k : Nat) : Nat → Int → Col → Option (Col)
 | 0, _, _ => none
 | k0 + 1, x10, x11 => (if decide (x10 < 16) then (spec_l01Named_l1 x10 k 0 x11 : Option (Col)).bind fun s19 => spec_l01Named_l0 k k0 (w64 (x10 + 1)) s19 else some x11)
def spec_l01Named (k : Nat) (p0 : ByteArray) : Option (Col × Bool) :=
 ((if (p0 == (⟨#[112, 101, 110, 116, 97, 103, 111, 110]⟩ : ByteArray)) then (spec_l01Circle k 5 ([1, 4])).bind fun r2 => some (.inr (r2, true)) else (if (p0 == (⟨#[101, 105, 103, 104, 116]⟩ : ByteArray)) then (spec_l01Circle k 8 ([1, 4, 7])).bind fun r4 => some (.inr (r4, true)) else (if (p0 == (⟨#[116, 104, 105, 114, 116, 101, 101, 110]⟩ : ByteArray)) then (spec_l01Circle k 13 ([1, 5, 8, 12])).bind fun r6 => some (.inr (r6, true)) else (if (p0 == (⟨#[115, 101, 118, 101, 110, 116, 101, 101, 110]⟩ : ByteArray)) then (spec_l01Circle k 17 ([1, 2, 4, 8, 9, 13, 15, 16])).bind fun r8 => some (.inr (r8, true)) else (if (p0 == (⟨#[115, 105, 120, 116, 101, 101, 110]⟩ : ByteArray)) then (spec_l01Named_l0 k k 1 (⟨16, 3, B136.zero⟩ : Col) : Option (Col)).bind fun s20 => some (.inr (s20, true)) else some (.inl ())))))) : Option (Sum (Unit) (Col × Bool))).bind fun os21 => (match os21 with | .inl s21 => some ((⟨0, 0, B136.zero⟩ : Col), false) | .inr rr => some rr)
set_option maxRecDepth 100000 in
theorem spec_l01Named_ac (k : Nat) (p0 : ByteArray) (r : Col × Bool) (h : spec_l01Named k p0 = some r) : AC Try.prog 128 [.d (.s (.string p0))] [] (fun res H' => res = [.d (.agg (colD r.1)), bV r.2] ∧ H' = []) := by
 refine AC_of_body true Try.func128 rfl Try.ntmps128 (rvs := [.cell 2 29, .tmp 3]) rfl rfl (fun G hG => ?_)
 have hm : G.H.length = 0 := by rw [hG]; rfl
 have hz : zeroG G.H = true := by rw [hG]; rfl
 unfold spec_l01Named at h
 refine kR ?_
 refine AOps_alloc 2 _ _ (colD Col.zero) (zero_of Try.typeInfo29 rfl) (by rfl) rfl rfl rfl rfl ?_
 refine kN 1 rfl ?_
 refine kO (fun s21 => [(2, .ptr 0 0)]) (fun s21 => [.box (colD Col.zero)]) h (fun os21 h hks21 => ?_) (fun s21 h => ?_)
 ·refine kR ?_
  refine kN 1 rfl ?_
  refine ACode_block ?_
  refine kR ?_
  refine AOps_q 10 _ rfl rfl rfl (QOp_seq _ _ _ _ _ _ rfl rfl rfl Try.underlying9) ?_
  refine kN 1 rfl ?_
  refine kI h rfl (fun h _ => ?_) (fun h _ => ?_)
  ·refine kR ?_
   refine AOps_buildSlice 11 _ _ _ [_, _] (intsD ([1, 4])) _ rfl rfl rfl rfl rfl (by decide) Try.underlying24 Try.sizeOf2 (zero_of Try.typeInfo2 rfl) rfl rfl (intsD_one _) ?_
   obtain ⟨r2, hr2, h⟩ := bindO h
   refine AOps_callL [] 12 _ _ _ _ _ _ _ _ _ _ rfl rfl rfl rfl rfl rfl rfl Try.call139 rfl (nodupB_sound _ rfl) rfl rfl rfl (spec_l01Circle_ac k 5 ([1, 4]) _ hr2) ?_
   rintro _ _ ⟨rfl, rfl⟩
   refine ⟨(fun _ h => nomatch h), (allc (flat_agg (colD_flat _)) (fun _ h => nomatch h)), AOps_as 12 (v' := .d (.agg (colD r2))) (H' := [.box (colD Col.zero), .vec 0 (intsD ([1, 4]))]) rfl rfl ?_⟩
   refine AOps_store _ _ _ _ _ _ (colD _) _ _ rfl rfl rfl rfl rfl rfl rfl (colD_one _) (by rw [colD_length]; exact Try.sizeOf29) (by rw [colD_length, colD_length]; decide) (colD_whole _ _) ?_
   refine kN 1 rfl ?_
   refine ACode_ret ?_
   cases h
   have h := hks21
   cases h
   exact ⟨_, _, fun r a w h => ⟨r, h⟩, _, _, [], _, (.cons (ResV_agg _ _ _ _ _ _ Try.isAgg29 Try.sizeOf29 rfl rfl (colD_take _) (colD_length _)) (.cons (ResV_tmp _ _ rfl) .nil)), rfl, rfl, rfl, rfl, rfl⟩
  refine kR ?_
  refine AOps_q 14 _ rfl rfl rfl (QOp_seq _ _ _ _ _ _ rfl rfl rfl Try.underlying9) ?_
  refine kN 1 rfl ?_
  refine kI h rfl (fun h _ => ?_) (fun h _ => ?_)
  ·refine kR ?_
   refine AOps_buildSlice 15 _ _ _ [_, _, _] (intsD ([1, 4, 7])) _ rfl rfl rfl rfl rfl (by decide) Try.underlying24 Try.sizeOf2 (zero_of Try.typeInfo2 rfl) rfl rfl (intsD_one _) ?_
   obtain ⟨r4, hr4, h⟩ := bindO h
   refine AOps_callL [] 16 _ _ _ _ _ _ _ _ _ _ rfl rfl rfl rfl rfl rfl rfl Try.call139 rfl (nodupB_sound _ rfl) rfl rfl rfl (spec_l01Circle_ac k 8 ([1, 4, 7]) _ hr4) ?_
   rintro _ _ ⟨rfl, rfl⟩
   refine ⟨(fun _ h => nomatch h), (allc (flat_agg (colD_flat _)) (fun _ h => nomatch h)), AOps_as 16 (v' := .d (.agg (colD r4))) (H' := [.box (colD Col.zero), .vec 0 (intsD ([1, 4, 7]))]) rfl rfl ?_⟩
   refine AOps_store _ _ _ _ _ _ (colD _) _ _ rfl rfl rfl rfl rfl rfl rfl (colD_one _) (by rw [colD_length]; exact Try.sizeOf29) (by rw [colD_length, colD_length]; decide) (colD_whole _ _) ?_
   refine kN 1 rfl ?_
   refine ACode_ret ?_
   cases h
   have h := hks21
   cases h
   exact ⟨_, _, fun r a w h => ⟨r, h⟩, _, _, [], _, (.cons (ResV_agg _ _ _ _ _ _ Try.isAgg29 Try.sizeOf29 rfl rfl (colD_take _) (colD_length _)) (.cons (ResV_tmp _ _ rfl) .nil)), rfl, rfl, rfl, rfl, rfl⟩
  refine kR ?_
  refine AOps_q 18 _ rfl rfl rfl (QOp_seq _ _ _ _ _ _ rfl rfl rfl Try.underlying9) ?_
  refine kN 1 rfl ?_
  refine kI h rfl (fun h _ => ?_) (fun h _ => ?_)
  ·refine kR ?_
   refine AOps_buildSlice 19 _ _ _ [_, _, _, _] (intsD ([1, 5, 8, 12])) _ rfl rfl rfl rfl rfl (by decide) Try.underlying24 Try.sizeOf2 (zero_of Try.typeInfo2 rfl) rfl rfl (intsD_one _) ?_
   obtain ⟨r6, hr6, h⟩ := bindO h
   refine AOps_callL [] 20 _ _ _ _ _ _ _ _ _ _ rfl rfl rfl rfl rfl rfl rfl Try.call139 rfl (nodupB_sound _ rfl) rfl rfl rfl (spec_l01Circle_ac k 13 ([1, 5, 8, 12]) _ hr6) ?_
   rintro _ _ ⟨rfl, rfl⟩
   refine ⟨(fun _ h => nomatch h), (allc (flat_agg (colD_flat _)) (fun _ h => nomatch h)), AOps_as 20 (v' := .d (.agg (colD r6))) (H' := [.box (colD Col.zero), .vec 0 (intsD ([1, 5, 8, 12]))]) rfl rfl ?_⟩
   refine AOps_store _ _ _ _ _ _ (colD _) _ _ rfl rfl rfl rfl rfl rfl rfl (colD_one _) (by rw [colD_length]; exact Try.sizeOf29) (by rw [colD_length, colD_length]; decide) (colD_whole _ _) ?_
   refine kN 1 rfl ?_
   refine ACode_ret ?_
   cases h
   have h := hks21
   cases h
   exact ⟨_, _, fun r a w h => ⟨r, h⟩, _, _, [], _, (.cons (ResV_agg _ _ _ _ _ _ Try.isAgg29 Try.sizeOf29 rfl rfl (colD_take _) (colD_length _)) (.cons (ResV_tmp _ _ rfl) .nil)), rfl, rfl, rfl, rfl, rfl⟩
  refine kR ?_
  refine AOps_q 22 _ rfl rfl rfl (QOp_seq _ _ _ _ _ _ rfl rfl rfl Try.underlying9) ?_
  refine kN 1 rfl ?_
  refine kI h rfl (fun h _ => ?_) (fun h _ => ?_)
  ·refine kR ?_
   refine AOps_buildSlice 23 _ _ _ [_, _, _, _, _, _, _, _] (intsD ([1, 2, 4, 8, 9, 13, 15, 16])) _ rfl rfl rfl rfl rfl (by decide) Try.underlying24 Try.sizeOf2 (zero_of Try.typeInfo2 rfl) rfl rfl (intsD_one _) ?_
   obtain ⟨r8, hr8, h⟩ := bindO h
   refine AOps_callL [] 24 _ _ _ _ _ _ _ _ _ _ rfl rfl rfl rfl rfl rfl rfl Try.call139 rfl (nodupB_sound _ rfl) rfl rfl rfl (spec_l01Circle_ac k 17 ([1, 2, 4, 8, 9, 13, 15, 16]) _ hr8) ?_
   rintro _ _ ⟨rfl, rfl⟩
   refine ⟨(fun _ h => nomatch h), (allc (flat_agg (colD_flat _)) (fun _ h => nomatch h)), AOps_as 24 (v' := .d (.agg (colD r8))) (H' := [.box (colD Col.zero), .vec 0 (intsD ([1, 2, 4, 8, 9, 13, 15, 16]))]) rfl rfl ?_⟩
   refine AOps_store _ _ _ _ _ _ (colD _) _ _ rfl rfl rfl rfl rfl rfl rfl (colD_one _) (by rw [colD_length]; exact Try.sizeOf29) (by rw [colD_length, colD_length]; decide) (colD_whole _ _) ?_
   refine kN 1 rfl ?_
   refine ACode_ret ?_
   cases h
   have h := hks21
   cases h
   exact ⟨_, _, fun r a w h => ⟨r, h⟩, _, _, [], _, (.cons (ResV_agg _ _ _ _ _ _ Try.isAgg29 Try.sizeOf29 rfl rfl (colD_take _) (colD_length _)) (.cons (ResV_tmp _ _ rfl) .nil)), rfl, rfl, rfl, rfl, rfl⟩
  refine kR ?_
  refine AOps_q 26 _ rfl rfl rfl (QOp_seq _ _ _ _ _ _ rfl rfl rfl Try.underlying9) ?_
  refine kN 1 rfl ?_
  refine kI h rfl (fun h _ => ?_) (fun h _ => ?_)
  ·refine kR ?_
   refine AOps_buildSlice 27 _ _ _ [_, _, _, _, _, _, _, _, _, _, _, _, _, _, _, _] (bysD ([0, 0, 1, 1, 2, 2, 2, 1, 0, 2, 0, 1, 0, 1, 2, 0])) _ rfl rfl rfl rfl rfl (by decide) Try.underlying22 Try.sizeOf5 (zero_of Try.typeInfo5 rfl) rfl rfl (bysD_one _) ?_
   refine kN 1 rfl ?_
   refine kR ?_
   refine AOps_q 28 _ rfl rfl rfl (QOp_build _ _ [_, _] [0, 1] [iD 16, iD 3] _ (colD Col.zero) (colD (⟨16, 3, B136.zero⟩ : Col)) [(0, 1), (1, 1), (2, 136)] rfl rfl Try.underlying29 (zero_of Try.typeInfo29 rfl) (fun w => by simp [Try.sizeOf2, Try.sizeOf2, Try.sizeOf27]) rfl (by rfl) (by rfl) (allc (ok1 rfl) (allc (ok1 rfl) (fun _ h => nomatch h)))) ?_
   refine AOps_alloc 5 _ _ (colD Col.zero) (zero_of Try.typeInfo29 rfl) (by rfl) rfl rfl rfl rfl ?_
   refine AOps_store _ _ _ _ _ _ (colD _) _ _ rfl rfl rfl rfl rfl rfl rfl (colD_one _) (by rw [colD_length]; exact Try.sizeOf29) (by rw [colD_length, colD_length]; decide) (colD_whole _ _) ?_
   refine AOps_nil ?_
   refine kB (fun s20 => [(2, .ptr 0 0), (5, .ptr 1 0)]) (fun s20 => [.box (colD Col.zero), .box (colD s20)]) h (fun s20 h => ?_) (fun s20 h => ?_)
   ·refine kR ?_
    refine kN 1 rfl ?_
    refine ACode_block ?_
    refine ACode_loopW (fun k0 E H => ∃ (x10 : Int) (x11 : Col), E = [(2, .ptr 0 0), (4, .vec 1 0), (5, .ptr 2 0), (6, iV x10)] ∧ H = [.box (colD Col.zero), .vec 0 (bysD ([0, 0, 1, 1, 2, 2, 2, 1, 0, 2, 0, 1, 0, 1, 2, 0])), .box (colD x11)] ∧ spec_l01Named_l0 k k0 x10 x11 = some s20) k _ _ (Weak_keep 0 hm [2, 4, 5, 6] [0, 1, 2] _ _ rfl rfl rfl) ⟨_, _, rfl, rfl, h⟩ ?_
    clear h
    rintro k0 E H ⟨x10, x11, rfl, rfl, h⟩
    cases k0 with
    | zero => cases (show (none : Option (Col)) = some _ from h)
    | succ k0 =>
     rw [spec_l01Named_l0] at h
     refine ACode_seq ?_
     refine kR ?_
     refine kM 1 rfl ?_
     refine AOps_q 30 _ rfl rfl rfl (QOp_lss _ _ _ _ _ _ _ rfl rfl rfl) ?_
     refine AOps_nil ?_
     refine kI h rfl (fun h _ => ?_) (fun h _ => ?_)
     ·refine ACode_skip ?_
      refine kB (fun s19 => [(2, .ptr 0 0), (4, .vec 1 0), (5, .ptr 2 0), (6, iV x10)]) (fun s19 => [.box (colD Col.zero), .vec 0 (bysD ([0, 0, 1, 1, 2, 2, 2, 1, 0, 2, 0, 1, 0, 1, 2, 0])), .box (colD s19)]) h (fun s19 h => ?_) (fun s19 h => ?_)
      ·refine ACode_block ?_
       refine kR ?_
       refine kN 1 rfl ?_
       refine ACode_block ?_
       refine ACode_loopW (fun k1 E H => ∃ (x13 : Int) (x14 : Col), E = [(2, .ptr 0 0), (4, .vec 1 0), (5, .ptr 2 0), (6, iV x10), (7, iV x13)] ∧ H = [.box (colD Col.zero), .vec 0 (bysD ([0, 0, 1, 1, 2, 2, 2, 1, 0, 2, 0, 1, 0, 1, 2, 0])), .box (colD x14)] ∧ spec_l01Named_l1 x10 k1 x13 x14 = some s19) k _ _ (Weak_keep 0 hm [2, 4, 5, 6, 7] [0, 1, 2] _ _ rfl rfl rfl) ⟨_, _, rfl, rfl, h⟩ ?_
       clear h
       rintro k1 E H ⟨x13, x14, rfl, rfl, h⟩
       cases k1 with
       | zero => cases (show (none : Option (Col)) = some _ from h)
       | succ k1 =>
        rw [spec_l01Named_l1] at h
        refine ACode_seq ?_
        refine kR ?_
        refine kM 2 rfl ?_
        refine AOps_q 35 _ rfl rfl rfl (QOp_lss _ _ _ _ _ _ _ rfl rfl rfl) ?_
        refine AOps_nil ?_
        refine kI h rfl (fun h _ => ?_) (fun h _ => ?_)
        ·refine ACode_skip ?_
         refine ACode_seq ?_
         refine ACode_block ?_
         refine (ACode_last (l := [_, _, _, _, _, _, _, _, _, _, _]) mixed (by kernel_rfl) (by kernel_rfl) ?_)
         refine kQ 2 rfl ?_
         refine AQ_call 40 _ _ _ _ _ _ _ _ _ rfl rfl rfl rfl rfl rfl rfl Try.call110 rfl rfl rfl (spec_l01Edge_ac x13 x10) ?_
         refine kQ 3 rfl ?_
         refine AQ_q 44 _ rfl rfl rfl (QOp_xor _ _ _ _ _ _ _ rfl rfl rfl) ?_
         obtain ⟨hc17, h⟩ := guardO h
         refine AQ_q 45 _ rfl rfl rfl (QOp_indexAddr_vec _ _ _ _ _ _ _ _ _ rfl Try.underlying22 Try.sizeOf5 hc17.1 (by rw [bysD_length]; exact hc17.2) rfl rfl rfl) ?_
         refine AQ_q 46 _ rfl rfl rfl (QOp_load_eptr _ _ _ _ _ _ _ rfl Try.isAgg5 rfl rfl (bysD_get _ _ 0 (by omega))) ?_
         refine AQ_q 47 _ rfl rfl rfl (QOp_fieldAddr_ptr _ _ _ _ _ _ 2 _ _ rfl Try.underlying29 rfl _ Try.sizeOf27 rfl rfl rfl rfl) ?_
         obtain ⟨hc18, h⟩ := guardO h
         refine AQ_q 48 _ rfl rfl rfl (QOp_indexAddrA_ptr _ _ _ _ _ _ _ _ _ _ rfl Try.underlying27 Try.sizeOf5 hc18.1 hc18.2 rfl rfl rfl rfl) ?_
         refine AQ_nil ?_
         refine AOps_store1 _ _ _ _ _ _ (colD (x14.set ((spec_l01Edge x13 x10).toNat) (([0, 0, 1, 1, 2, 2, 2, 1, 0, 2, 0, 1, 0, 1, 2, 0]).getD (bXor .i64 x13 x10).toNat 0))) _ rfl rfl rfl rfl rfl rfl rfl Try.sizeOf5 (by rw [colD_length]; omega) (colD_setE x14 ((spec_l01Edge x13 x10).toNat) (([0, 0, 1, 1, 2, 2, 2, 1, 0, 2, 0, 1, 0, 1, 2, 0]).getD (bXor .i64 x13 x10).toNat 0)) ?_
         refine AOps_nil ?_
         refine (ACode_region ?_)
         refine kM 1 rfl ?_
         refine AOps_q 37 _ rfl rfl rfl (QOp_add _ _ _ _ _ _ _ rfl rfl rfl) ?_
         refine kN 1 rfl ?_
         exact ⟨k1, _, _, Nat.lt_succ_self _, Weak_keep 0 hm [2, 4, 5, 6, 7] [0, 1, 2] _ _ rfl rfl rfl, _, _, rfl, rfl, h⟩
        refine ACode_exit ?_
        cases h
        exact Weak_keep 0 hm [2, 4, 5, 6] [0, 1, 2] _ _ rfl rfl rfl
      refine (ACode_region ?_)
      refine kM 1 rfl ?_
      refine AOps_q 32 _ rfl rfl rfl (QOp_add _ _ _ _ _ _ _ rfl rfl rfl) ?_
      refine kN 1 rfl ?_
      exact ⟨k0, _, _, Nat.lt_succ_self _, Weak_keep 0 hm [2, 4, 5, 6] [0, 1, 2] _ _ rfl rfl rfl, _, _, rfl, rfl, h⟩
     refine ACode_exit ?_
     cases h
     exact Weak_keep 0 hm [2, 5] [0, 2] _ _ rfl rfl rfl
   refine kR ?_
   refine AOps_q 49 _ rfl rfl rfl (QOp_loadN_ptr _ _ _ _ _ _ _ rfl Try.isAgg29 Try.sizeOf29 rfl rfl (colD_all _) (colD_length _)) ?_
   refine AOps_store _ _ _ _ _ _ (colD _) _ _ rfl rfl rfl rfl rfl rfl rfl (colD_one _) (by rw [colD_length]; exact Try.sizeOf29) (by rw [colD_length, colD_length]; decide) (colD_whole _ _) ?_
   refine kN 1 rfl ?_
   refine ACode_ret ?_
   cases h
   have h := hks21
   cases h
   exact ⟨_, _, fun r a w h => ⟨r, h⟩, _, _, [], _, (.cons (ResV_agg _ _ _ _ _ _ Try.isAgg29 Try.sizeOf29 rfl rfl (colD_take _) (colD_length _)) (.cons (ResV_tmp _ _ rfl) .nil)), rfl, rfl, rfl, rfl, rfl⟩
  refine ACode_skip ?_
  cases h
  exact ⟨_, rfl, Weak_keep 0 hm [2] [0] _ _ rfl rfl rfl⟩
 refine kR ?_
 refine AOps_q 50 _ rfl rfl rfl (QOp_build _ _ [] [] [] _ (colD Col.zero) (colD (⟨0, 0, B136.zero⟩ : Col)) [(0, 1), (1, 1), (2, 136)] rfl rfl Try.underlying29 (zero_of Try.typeInfo29 rfl) (fun w => by simp [Try.sizeOf2, Try.sizeOf2, Try.sizeOf27]) rfl (by rfl) (by rfl) (fun _ h => nomatch h)) ?_
 refine AOps_store _ _ _ _ _ _ (colD _) _ _ rfl rfl rfl rfl rfl rfl rfl (colD_one _) (by rw [colD_length]; exact Try.sizeOf29) (by rw [colD_length, colD_length]; decide) (colD_whole _ _) ?_
 refine kN 1 rfl ?_
 refine ACode_ret ?_
 cases h
 exact ⟨_, _, fun r a w h => ⟨r, h⟩, _, _, [], _, (.cons (ResV_agg _ _ _ _ _ _ Try.isAgg29 Try.sizeOf29 rfl rfl (colD_take _) (colD_length _)) (.cons (ResV_tmp _ _ rfl) .nil)), rfl, rfl, rfl, rfl, rfl⟩

-- loop.example/g01362/spec.l01DrawOrder
def spec_l01DrawOrder_l0 (p1 : Int) : Nat → Int → Src → (List Int) → Option (Src × List Int)
 | 0, _, _, _ => none
 | k0 + 1, x1, x2, x3 => (if decide (x1 < p1) then (spec_l01Next x2 (w64 (x1 + 1))).bind fun r5 => (if 0 ≤ 0 ∧ 0 ≤ r5.1 ∧ r5.1 ≤ ((x3.length : Nat) : Int) then (if 0 ≤ r5.1 ∧ r5.1 ≤ ((x3.length : Nat) : Int) ∧ ((x3.length : Nat) : Int) ≤ ((x3.length : Nat) : Int) then (spec_l01Own ((x3.drop 0).take (r5.1.toNat - 0))).bind fun r10 => (if r10.length + ([x1]).length ≤ 1099511627776 then (if (r10 ++ ([x1])).length + ((x3.drop r5.1.toNat).take (x3.length - r5.1.toNat)).length ≤ 1099511627776 then spec_l01DrawOrder_l0 p1 k0 (w64 (x1 + 1)) r5.2 ((r10 ++ ([x1])) ++ ((x3.drop r5.1.toNat).take (x3.length - r5.1.toNat))) else none) else none) else none) else none) else some (x2, x3))
def spec_l01DrawOrder (k : Nat) (p0 : Src) (p1 : Int) : Option (List Int × Src) :=
 (spec_l01DrawOrder_l0 p1 k 0 p0 ([] : List Int) : Option (Src × List Int)).bind fun s13 => some (s13.2, s13.1)
set_option maxRecDepth 100000 in
theorem spec_l01DrawOrder_ac (k : Nat) (p0 : Src) (p1 : Int) (r : List Int × Src) (h : spec_l01DrawOrder k p0 p1 = some r) : AC Try.prog 132 [.ptr 0 0, iV p1] [.box (srcD p0)] (fun res H' => res = [.vec 1 0] ∧ H' = [.box (srcD r.2), .vec 0 (intsD r.1)]) := by
 refine AC_of_body true Try.func132 rfl Try.ntmps132 (rvs := [.tmp 4]) rfl rfl (fun G hG => ?_)
 have hm : G.H.length = 1 := by rw [hG]; rfl
 have hz : zeroG G.H = true := by rw [hG]; rfl
 unfold spec_l01DrawOrder at h
 refine kR ?_
 refine kN 1 rfl ?_
 refine kR ?_
 refine AOps_buildSlice 8 _ _ _ [] (intsD ([] : List Int)) _ rfl rfl rfl rfl rfl (by decide) Try.underlying24 Try.sizeOf2 (zero_of Try.typeInfo2 rfl) rfl rfl (intsD_one _) ?_
 refine kN 1 rfl ?_
 refine kB (fun s13 => [(5, .vec 1 0)]) (fun s13 => [.box (srcD s13.1), .vec 0 (intsD s13.2)]) h (fun s13 h => ?_) (fun s13 h => ?_)
 ·refine kR ?_
  refine kN 1 rfl ?_
  refine ACode_block ?_
  refine ACode_loopW (fun k0 E H => ∃ (x1 : Int) (x2 : Src) (x3 : List Int), E = [(0, .ptr 0 0), (1, iV p1), (5, .vec 1 0), (6, iV x1)] ∧ H = [.box (srcD x2), .vec 0 (intsD x3)] ∧ spec_l01DrawOrder_l0 p1 k0 x1 x2 x3 = some s13) k _ _ (Weak_keep 1 hm [0, 1, 5, 6] [1] _ _ rfl rfl rfl) ⟨_, _, _, rfl, rfl, h⟩ ?_
  clear h
  rintro k0 E H ⟨x1, x2, x3, rfl, rfl, h⟩
  cases k0 with
  | zero => cases (show (none : Option (Src × List Int)) = some _ from h)
  | succ k0 =>
   rw [spec_l01DrawOrder_l0] at h
   refine ACode_seq ?_
   refine kR ?_
   refine kM 2 rfl ?_
   refine AOps_q 11 _ rfl rfl rfl (QOp_lss _ _ _ _ _ _ _ rfl rfl rfl) ?_
   refine AOps_nil ?_
   refine kI h rfl (fun h _ => ?_) (fun h _ => ?_)
   ·refine ACode_skip ?_
    refine ACode_seq ?_
    refine ACode_block ?_
    refine kR ?_
    refine kM 2 rfl ?_
    refine AOps_q 16 _ rfl rfl rfl (QOp_add _ _ _ _ _ _ _ rfl rfl rfl) ?_
    obtain ⟨r5, hr5, h⟩ := bindO h
    refine kC [0] 17 (iV r5.1) [.box (srcD r5.2), .vec 0 (intsD x3)] rfl Try.call34 rfl rfl (spec_l01Next_ac x2 (w64 (x1 + 1)) _ hr5) rfl ?_
    refine kN 1 rfl ?_
    obtain ⟨hc7, h⟩ := guardO h
    obtain ⟨hc9, h⟩ := guardO h
    obtain ⟨r10, hr10, h⟩ := bindO h
    obtain ⟨hc11, h⟩ := guardO h
    obtain ⟨hc12, h⟩ := guardO h
    refine ACode_reg [(0, .ptr 0 0), (1, iV p1), (5, .vec 1 0), (6, iV x1)] [.box (srcD r5.2), .vec 0 (intsD ((r10 ++ ([x1])) ++ ((x3.drop r5.1.toNat).take (x3.length - r5.1.toNat))))] ?_ ?_
    ·refine ACode_anyU mixed ?_
     refine AU_cut 3 #[true, true, true, true, true, true, false, true, true, true, false, false] [(0, .ptr 0 0), (1, iV p1), (5, .vec 1 0), (6, iV x1), (21, .vec 2 0), (23, .vec 3 0), (27, .part 1 0 r5.1.toNat (x3.length - r5.1.toNat))] [.box (srcD r5.2), .vec 0 (intsD x3), .vec 0 (intsD r10), .vec 0 (intsD ([x1]))] ?_ (fun hS0 => ?_)
     ·refine AU_one 6 (by kernel_rfl) rfl rfl ?_
      refine AOps_append 24 _ _ _ _ _ _ _ _ _ _ _ _ rfl rfl rfl rfl rfl rfl rfl Try.underlying24 Try.type2 rfl rfl rfl (by decide) rfl rfl rfl rfl (intsD_one _) (by rw [intsD_length, intsD_length]; exact hc11) ?_
      rw [intsD_app]
      refine AOps_nil ?_
      refine AU_one 10 (by kernel_rfl) rfl rfl ?_
      refine AOps_append 28 _ _ _ _ _ _ _ _ _ _ _ _ rfl rfl rfl rfl rfl rfl rfl Try.underlying24 Try.type2 rfl rfl rfl (by decide) rfl rfl rfl rfl (by rw [← intsD_dt]; exact intsD_one _) (by rw [← intsD_dt, intsD_length, intsD_length]; exact hc12) ?_
      rw [← intsD_dt, intsD_app]
      refine AOps_nil ?_
      refine AU_u 11 5 _ rfl (by kernel_rfl) rfl rfl rfl (UOp_assign _ _ rfl rfl) ?_
      refine AU_done (by kernel_rfl) ?_
      exact ⟨rfl, Weak_trans (Weak_keep 1 hm [0, 1, 5, 6] [2] _ _ rfl rfl rfl) (Weak_reset 1 hm hz [0, 1, 5, 6] _ _ rfl rfl)⟩
     refine AU_u 0 18 _ rfl (by kernel_rfl) rfl rfl rfl (UOp_move _ _ rfl rfl) ?_
     refine AU_u 1 19 _ rfl (by kernel_rfl) rfl rfl rfl (UOp_move _ _ rfl rfl) ?_
     refine AU_u 2 20 _ rfl (by kernel_rfl) rfl rfl rfl (UOp_cut _ _ _ _ _ _ _ _ _ _ _ (0) (r5.1.toNat) rfl Try.underlying24 Try.sizeOf2 rfl rfl rfl rfl (by exact ⟨_, by rw [Int.toNat_of_nonneg (by omega)]; rfl⟩) (by omega) (by rw [intsD_length]; omega) _ (Nat.zero_add _) _ rfl) ?_
     refine AU_u 4 22 _ rfl (by kernel_rfl) rfl rfl rfl (UOp_move _ _ rfl rfl) ?_
     refine AU_u 7 25 _ rfl (by kernel_rfl) rfl rfl rfl (UOp_move _ _ rfl rfl) ?_
     refine AU_u 8 26 _ rfl (by kernel_rfl) rfl rfl rfl (UOp_move _ _ rfl rfl) ?_
     refine AU_u 9 27 _ rfl (by kernel_rfl) rfl rfl rfl (UOp_cut _ _ _ _ _ _ _ _ _ _ _ (r5.1.toNat) (x3.length) rfl Try.underlying24 Try.sizeOf2 rfl rfl rfl (by exact ⟨_, by rw [Int.toNat_of_nonneg (by omega)]; rfl⟩) (intsD_length _).symm (by omega) (by rw [intsD_length]; omega) _ (Nat.zero_add _) _ rfl) ?_
     refine AU_all [3, 5] (by kernel_rfl) rfl (allc ?_ (allc ?_ (fun _ h => nomatch h)))
     ·refine US_of 3 rfl rfl ?_
      refine AOps_callL [] 21 _ _ _ _ _ _ _ _ _ _ rfl rfl rfl rfl rfl rfl rfl Try.call130 rfl (nodupB_sound _ rfl) rfl rfl rfl (by have q := spec_l01Own_ac ((x3.drop 0).take (r5.1.toNat - 0)) _ hr10; simp only [intsD_dt] at q; exact q) ?_
      rintro _ _ ⟨rfl, rfl⟩
      refine ⟨(allc (intsD_flat _) (fun _ h => nomatch h)), (allc (trivial) (fun _ h => nomatch h)), AOps_as 21 (v' := .vec 2 0) (H' := [.box (srcD r5.2), .vec 0 (intsD x3), .vec 0 (intsD r10)]) rfl rfl ?_⟩
      refine AOps_nil ?_
      refine AU_one 5 (by kernel_rfl) rfl rfl ?_
      refine AOps_buildSlice 23 _ _ _ [_] (intsD ([x1])) _ rfl rfl rfl rfl rfl (by decide) Try.underlying24 Try.sizeOf2 (zero_of Try.typeInfo2 rfl) rfl rfl (intsD_one _) ?_
      refine AOps_nil ?_
      exact AU_to (by kernel_rfl) hS0 (Weak_keep 1 hm [0, 1, 5, 6, 21, 23, 27] [1, 2, 3] _ _ rfl rfl rfl)
     refine US_of 5 rfl rfl ?_
     refine AOps_buildSlice 23 _ _ _ [_] (intsD ([x1])) _ rfl rfl rfl rfl rfl (by decide) Try.underlying24 Try.sizeOf2 (zero_of Try.typeInfo2 rfl) rfl rfl (intsD_one _) ?_
     refine AOps_nil ?_
     refine AU_one 3 (by kernel_rfl) rfl rfl ?_
     refine AOps_callL [] 21 _ _ _ _ _ _ _ _ _ _ rfl rfl rfl rfl rfl rfl rfl Try.call130 rfl (nodupB_sound _ rfl) rfl rfl rfl (by have q := spec_l01Own_ac ((x3.drop 0).take (r5.1.toNat - 0)) _ hr10; simp only [intsD_dt] at q; exact q) ?_
     rintro _ _ ⟨rfl, rfl⟩
     refine ⟨(allc (intsD_flat _) (fun _ h => nomatch h)), (allc (trivial) (fun _ h => nomatch h)), AOps_as 21 (v' := .vec 3 0) (H' := [.box (srcD r5.2), .vec 0 (intsD x3), .vec 0 (intsD ([x1])), .vec 0 (intsD r10)]) rfl rfl ?_⟩
     refine AOps_nil ?_
     exact AU_to (by kernel_rfl) hS0 (Weak_keep 1 hm [0, 1, 5, 6, 21, 23, 27] [1, 3, 2] _ _ rfl rfl rfl)
    refine (ACode_region ?_)
    refine kM 1 rfl ?_
    refine AOps_q 13 _ rfl rfl rfl (QOp_add _ _ _ _ _ _ _ rfl rfl rfl) ?_
    refine kN 1 rfl ?_
    exact ⟨k0, _, _, Nat.lt_succ_self _, Weak_keep 1 hm [0, 1, 5, 6] [1] _ _ rfl rfl rfl, _, _, _, rfl, rfl, h⟩
   refine ACode_exit ?_
   cases h
   exact Weak_keep 1 hm [5] [1] _ _ rfl rfl rfl
 refine kR ?_
 refine kN 2 rfl ?_
 refine ACode_ret ?_
 cases h
 exact ⟨_, _, Weak_reset 1 hm hz [4] _ _ rfl rfl, _, _, [1], _, (.cons (ResV_tmp _ _ rfl) .nil), rfl, rfl, rfl, rfl, rfl⟩

-- loop.example/g01362/spec.l01Renamed
def spec_l01Renamed_l1 (p0 : Col) (p1 : List Int) (x1 : Int) : Nat → Int → Col → Option (Col)
 | 0, _, _ => none
 | k1 + 1, x4, x5 => (if decide (x4 < x1) then (if 0 ≤ x4 ∧ x4 < (p1.length : Int) then (if 0 ≤ x1 ∧ x1 < (p1.length : Int) then (spec_l01At p0 x4 x1).bind fun r10 => (if 0 ≤ (spec_l01Edge (p1.getD x4.toNat 0) (p1.getD x1.toNat 0)) ∧ (spec_l01Edge (p1.getD x4.toNat 0) (p1.getD x1.toNat 0)) < 136 then spec_l01Renamed_l1 p0 p1 x1 k1 (w64 (x4 + 1)) (x5.set ((spec_l01Edge (p1.getD x4.toNat 0) (p1.getD x1.toNat 0)).toNat) (toByte r10)) else none) else none) else none) else some x5)
def spec_l01Renamed_l0 (k : Nat) (p0 : Col) (p1 : List Int) : Nat → Int → Col → Option (Col)
 | 0, _, _ => none
 | k0 + 1, x1, x2 => (if decide (x1 < p0.p) then (spec_l01Renamed_l1 p0 p1 x1 k 0 x2 : Option (Col)).bind fun s12 => spec_l01Renamed_l0 k p0 p1 k0 (w64 (x1 + 1)) s12 else some x2)
def spec_l01Renamed (k : Nat) (p0 : Col) (p1 : List Int) : Option (Col) :=
 (spec_l01Renamed_l0 k p0 p1 k 1 (⟨p0.p, p0.k, B136.zero⟩ : Col) : Option (Col)).bind fun s13 => some s13
set_option maxRecDepth 100000 in
theorem spec_l01Renamed_ac (k : Nat) (p0 : Col) (p1 : List Int) (r : Col) (h : spec_l01Renamed k p0 p1 = some r) : AC Try.prog 131 [.d (.agg (colD p0)), .d (.sl none (intsD p1))] [] (fun res H' => res = [.d (.agg (colD r))] ∧ H' = []) := by
 refine AC_of_body true Try.func131 rfl Try.ntmps131 (rvs := [.cell 4 29]) rfl rfl (fun G hG => ?_)
 have hm : G.H.length = 0 := by rw [hG]; rfl
 have hz : zeroG G.H = true := by rw [hG]; rfl
 unfold spec_l01Renamed at h
 refine kR ?_
 refine AOps_boxI 2 _ _ (.agg (colD p0)) (colD p0) rfl (colD_one _) rfl rfl rfl rfl rfl ?_
 refine AOps_alloc 4 _ _ (colD Col.zero) (zero_of Try.typeInfo29 rfl) (by rfl) rfl rfl rfl rfl ?_
 refine AOps_nil ?_
 refine kR ?_
 refine AOps_q 8 _ rfl rfl rfl (QOp_fieldAddr_pv _ _ _ _ _ 0 _ _ rfl Try.underlying29 rfl _ Try.sizeOf2 rfl rfl) ?_
 refine AOps_q 9 _ rfl rfl rfl (QOp_load_pv _ _ _ _ _ rfl Try.isAgg2 rfl rfl) ?_
 refine AOps_q 10 _ rfl rfl rfl (QOp_fieldAddr_pv _ _ _ _ _ 1 _ _ rfl Try.underlying29 rfl _ Try.sizeOf2 rfl rfl) ?_
 refine AOps_q 11 _ rfl rfl rfl (QOp_load_pv _ _ _ _ _ rfl Try.isAgg2 rfl rfl) ?_
 refine AOps_q 12 _ rfl rfl rfl (QOp_build _ _ [_, _] [0, 1] [iD p0.p, iD p0.k] _ (colD Col.zero) (colD (⟨p0.p, p0.k, B136.zero⟩ : Col)) [(0, 1), (1, 1), (2, 136)] rfl rfl Try.underlying29 (zero_of Try.typeInfo29 rfl) (fun w => by simp [Try.sizeOf2, Try.sizeOf2, Try.sizeOf27]) rfl (by rfl) (by rfl) (allc (ok1 rfl) (allc (ok1 rfl) (fun _ h => nomatch h)))) ?_
 refine AOps_alloc 5 _ _ (colD Col.zero) (zero_of Try.typeInfo29 rfl) (by rfl) rfl rfl rfl rfl ?_
 refine AOps_store _ _ _ _ _ _ (colD _) _ _ rfl rfl rfl rfl rfl rfl rfl (colD_one _) (by rw [colD_length]; exact Try.sizeOf29) (by rw [colD_length, colD_length]; decide) (colD_whole _ _) ?_
 refine AOps_nil ?_
 refine kB (fun s13 => [(4, .ptr 0 0), (5, .ptr 1 0)]) (fun s13 => [.box (colD Col.zero), .box (colD s13)]) h (fun s13 h => ?_) (fun s13 h => ?_)
 ·refine kR ?_
  refine kN 1 rfl ?_
  refine ACode_block ?_
  refine ACode_loopW (fun k0 E H => ∃ (x1 : Int) (x2 : Col), E = [(1, .d (.sl none (intsD p1))), (2, .d (.pv (colD p0) 0)), (4, .ptr 0 0), (5, .ptr 1 0), (6, iV x1)] ∧ H = [.box (colD Col.zero), .box (colD x2)] ∧ spec_l01Renamed_l0 k p0 p1 k0 x1 x2 = some s13) k _ _ (Weak_keep 0 hm [1, 2, 4, 5, 6] [0, 1] _ _ rfl rfl rfl) ⟨_, _, rfl, rfl, h⟩ ?_
  clear h
  rintro k0 E H ⟨x1, x2, rfl, rfl, h⟩
  cases k0 with
  | zero => cases (show (none : Option (Col)) = some _ from h)
  | succ k0 =>
   rw [spec_l01Renamed_l0] at h
   refine ACode_seq ?_
   refine kR ?_
   refine kM 1 rfl ?_
   refine AOps_q 14 _ rfl rfl rfl (QOp_fieldAddr_pv _ _ _ _ _ 0 _ _ rfl Try.underlying29 rfl _ Try.sizeOf2 rfl rfl) ?_
   refine AOps_q 15 _ rfl rfl rfl (QOp_load_pv _ _ _ _ _ rfl Try.isAgg2 rfl rfl) ?_
   refine AOps_q 16 _ rfl rfl rfl (QOp_lss _ _ _ _ _ _ _ rfl rfl rfl) ?_
   refine AOps_nil ?_
   refine kI h rfl (fun h _ => ?_) (fun h _ => ?_)
   ·refine ACode_skip ?_
    refine kB (fun s12 => [(1, .d (.sl none (intsD p1))), (2, .d (.pv (colD p0) 0)), (4, .ptr 0 0), (5, .ptr 1 0), (6, iV x1)]) (fun s12 => [.box (colD Col.zero), .box (colD s12)]) h (fun s12 h => ?_) (fun s12 h => ?_)
    ·refine ACode_block ?_
     refine kR ?_
     refine kN 1 rfl ?_
     refine ACode_block ?_
     refine ACode_loopW (fun k1 E H => ∃ (x4 : Int) (x5 : Col), E = [(1, .d (.sl none (intsD p1))), (2, .d (.pv (colD p0) 0)), (4, .ptr 0 0), (5, .ptr 1 0), (6, iV x1), (7, iV x4)] ∧ H = [.box (colD Col.zero), .box (colD x5)] ∧ spec_l01Renamed_l1 p0 p1 x1 k1 x4 x5 = some s12) k _ _ (Weak_keep 0 hm [1, 2, 4, 5, 6, 7] [0, 1] _ _ rfl rfl rfl) ⟨_, _, rfl, rfl, h⟩ ?_
     clear h
     rintro k1 E H ⟨x4, x5, rfl, rfl, h⟩
     cases k1 with
     | zero => cases (show (none : Option (Col)) = some _ from h)
     | succ k1 =>
      rw [spec_l01Renamed_l1] at h
      refine ACode_seq ?_
      refine kR ?_
      refine kM 2 rfl ?_
      refine AOps_q 21 _ rfl rfl rfl (QOp_lss _ _ _ _ _ _ _ rfl rfl rfl) ?_
      refine AOps_nil ?_
      refine kI h rfl (fun h _ => ?_) (fun h _ => ?_)
      ·refine ACode_skip ?_
       refine ACode_seq ?_
       refine ACode_block ?_
       refine (ACode_last (l := [_, _, _, _, _, _, _, _, _, _, _, _, _, _, _, _]) mixed (by kernel_rfl) (by kernel_rfl) ?_)
       refine kQ 2 rfl ?_
       obtain ⟨hc7, h⟩ := guardO h
       refine AQ_q 26 _ rfl rfl rfl (QOp_indexAddr_sl _ _ _ _ _ _ _ _ rfl Try.underlying24 Try.sizeOf2 hc7.1 (by rw [intsD_length]; exact hc7.2) rfl rfl) ?_
       refine AQ_q 27 _ rfl rfl rfl (QOp_load_pv _ _ _ _ _ rfl Try.isAgg2 rfl (intsD_get _ _ 0 (by omega))) ?_
       refine kQ 2 rfl ?_
       obtain ⟨hc8, h⟩ := guardO h
       refine AQ_q 30 _ rfl rfl rfl (QOp_indexAddr_sl _ _ _ _ _ _ _ _ rfl Try.underlying24 Try.sizeOf2 hc8.1 (by rw [intsD_length]; exact hc8.2) rfl rfl) ?_
       refine AQ_q 31 _ rfl rfl rfl (QOp_load_pv _ _ _ _ _ rfl Try.isAgg2 rfl (intsD_get _ _ 0 (by omega))) ?_
       refine AQ_call 32 _ _ _ _ _ _ _ _ _ rfl rfl rfl rfl rfl rfl rfl Try.call110 rfl rfl rfl (spec_l01Edge_ac (p1.getD x4.toNat 0) (p1.getD x1.toNat 0)) ?_
       refine AQ_q 33 _ rfl rfl rfl (QOp_loadN_pv _ _ _ _ _ _ rfl Try.isAgg29 Try.sizeOf29 rfl (colD_all _) (colD_length _)) ?_
       refine kQ 2 rfl ?_
       obtain ⟨r10, hr10, h⟩ := bindO h
       refine AQ_call 36 _ _ _ _ _ _ _ _ _ rfl rfl rfl rfl rfl rfl rfl Try.call66 rfl rfl rfl (spec_l01At_ac p0 x4 x1 _ hr10) ?_
       refine AQ_q 37 _ rfl rfl rfl (QOp_toByte _ _ _ _ _ rfl rfl Try.underlying5 rfl) ?_
       refine AQ_q 38 _ rfl rfl rfl (QOp_fieldAddr_ptr _ _ _ _ _ _ 2 _ _ rfl Try.underlying29 rfl _ Try.sizeOf27 rfl rfl rfl rfl) ?_
       obtain ⟨hc11, h⟩ := guardO h
       refine AQ_q 39 _ rfl rfl rfl (QOp_indexAddrA_ptr _ _ _ _ _ _ _ _ _ _ rfl Try.underlying27 Try.sizeOf5 hc11.1 hc11.2 rfl rfl rfl rfl) ?_
       refine AQ_nil ?_
       refine AOps_store1 _ _ _ _ _ _ (colD (x5.set ((spec_l01Edge (p1.getD x4.toNat 0) (p1.getD x1.toNat 0)).toNat) (toByte r10))) _ rfl rfl rfl rfl rfl rfl rfl Try.sizeOf5 (by rw [colD_length]; omega) (colD_setE x5 ((spec_l01Edge (p1.getD x4.toNat 0) (p1.getD x1.toNat 0)).toNat) (toByte r10)) ?_
       refine AOps_nil ?_
       refine (ACode_region ?_)
       refine kM 1 rfl ?_
       refine AOps_q 23 _ rfl rfl rfl (QOp_add _ _ _ _ _ _ _ rfl rfl rfl) ?_
       refine kN 1 rfl ?_
       exact ⟨k1, _, _, Nat.lt_succ_self _, Weak_keep 0 hm [1, 2, 4, 5, 6, 7] [0, 1] _ _ rfl rfl rfl, _, _, rfl, rfl, h⟩
      refine ACode_exit ?_
      cases h
      exact Weak_keep 0 hm [1, 2, 4, 5, 6] [0, 1] _ _ rfl rfl rfl
    refine (ACode_region ?_)
    refine kM 1 rfl ?_
    refine AOps_q 18 _ rfl rfl rfl (QOp_add _ _ _ _ _ _ _ rfl rfl rfl) ?_
    refine kN 1 rfl ?_
    exact ⟨k0, _, _, Nat.lt_succ_self _, Weak_keep 0 hm [1, 2, 4, 5, 6] [0, 1] _ _ rfl rfl rfl, _, _, rfl, rfl, h⟩
   refine ACode_exit ?_
   cases h
   exact Weak_keep 0 hm [4, 5] [0, 1] _ _ rfl rfl rfl
 refine kR ?_
 refine AOps_q 40 _ rfl rfl rfl (QOp_loadN_ptr _ _ _ _ _ _ _ rfl Try.isAgg29 Try.sizeOf29 rfl rfl (colD_all _) (colD_length _)) ?_
 refine AOps_store _ _ _ _ _ _ (colD _) _ _ rfl rfl rfl rfl rfl rfl rfl (colD_one _) (by rw [colD_length]; exact Try.sizeOf29) (by rw [colD_length, colD_length]; decide) (colD_whole _ _) ?_
 refine AOps_nil ?_
 refine ACode_ret ?_
 cases h
 exact ⟨_, _, fun r a w h => ⟨r, h⟩, _, _, [], _, (.cons (ResV_agg _ _ _ _ _ _ Try.isAgg29 Try.sizeOf29 rfl rfl (colD_take _) (colD_length _)) .nil), rfl, rfl, rfl, rfl, rfl⟩

-- loop.example/g01362/spec.l01DrawOf
def spec_l01DrawOf_l0 (p1 : Int) (p2 : Int) (r1 : Int × Src) : Nat → Int → Src → Col → Option (Src × Col)
 | 0, _, _, _ => none
 | k0 + 1, x2, x3, x4 => (if decide (x2 < w64 ((w64 (p1 * (w64 (p1 - 1)))).tdiv 2)) then ((spec_l01Next x3 p2).bind fun r6 => ((spec_l01Next r6.2 5).bind fun r7 => (if decide (r7.1 = 0) then some (r1.1, r7.2) else some (r6.1, r7.2)) : Option (Int × Src)).bind fun s9 => (if 0 ≤ x2 ∧ x2 < 136 then some (s9.2, x4.set x2.toNat (toByte s9.1)) else none) : Option (Src × Col)).bind fun s11 => spec_l01DrawOf_l0 p1 p2 r1 k0 (w64 (x2 + 1)) s11.1 s11.2 else some (x3, x4))
def spec_l01DrawOf (k : Nat) (p0 : Src) (p1 : Int) (p2 : Int) : Option (Col × Src) :=
 (spec_l01Next p0 p2).bind fun r1 => (spec_l01DrawOf_l0 p1 p2 r1 k 0 r1.2 (⟨p1, p2, B136.zero⟩ : Col) : Option (Src × Col)).bind fun s12 => some (s12.2, s12.1)
set_option maxRecDepth 100000 in
theorem spec_l01DrawOf_ac (k : Nat) (p0 : Src) (p1 : Int) (p2 : Int) (r : Col × Src) (h : spec_l01DrawOf k p0 p1 p2 = some r) : AC Try.prog 134 [.ptr 0 0, iV p1, iV p2] [.box (srcD p0)] (fun res H' => res = [.d (.agg (colD r.1))] ∧ H' = [.box (srcD r.2)]) := by
 refine AC_of_body true Try.func134 rfl Try.ntmps134 (rvs := [.cell 6 29]) rfl rfl (fun G hG => ?_)
 have hm : G.H.length = 1 := by rw [hG]; rfl
 have hz : zeroG G.H = true := by rw [hG]; rfl
 unfold spec_l01DrawOf at h
 refine kR ?_
 refine AOps_alloc 6 _ _ (colD Col.zero) (zero_of Try.typeInfo29 rfl) (by rfl) rfl rfl rfl rfl ?_
 refine AOps_nil ?_
 refine kR ?_
 refine kM 2 rfl ?_
 refine AOps_q 13 _ rfl rfl rfl (QOp_build _ _ [_, _] [0, 1] [iD p1, iD p2] _ (colD Col.zero) (colD (⟨p1, p2, B136.zero⟩ : Col)) [(0, 1), (1, 1), (2, 136)] rfl rfl Try.underlying29 (zero_of Try.typeInfo29 rfl) (fun w => by simp [Try.sizeOf2, Try.sizeOf2, Try.sizeOf27]) rfl (by rfl) (by rfl) (allc (ok1 rfl) (allc (ok1 rfl) (fun _ h => nomatch h)))) ?_
 refine kM 2 rfl ?_
 obtain ⟨r1, hr1, h⟩ := bindO h
 refine kC [0] 16 (iV r1.1) [.box (srcD r1.2), .box (colD Col.zero)] rfl Try.call34 rfl rfl (spec_l01Next_ac p0 p2 _ hr1) rfl ?_
 refine AOps_alloc 7 _ _ (colD Col.zero) (zero_of Try.typeInfo29 rfl) (by rfl) rfl rfl rfl rfl ?_
 refine AOps_store _ _ _ _ _ _ (colD _) _ _ rfl rfl rfl rfl rfl rfl rfl (colD_one _) (by rw [colD_length]; exact Try.sizeOf29) (by rw [colD_length, colD_length]; decide) (colD_whole _ _) ?_
 refine kN 1 rfl ?_
 refine kB (fun s12 => [(6, .ptr 1 0), (7, .ptr 2 0)]) (fun s12 => [.box (srcD s12.1), .box (colD Col.zero), .box (colD s12.2)]) h (fun s12 h => ?_) (fun s12 h => ?_)
 ·refine kR ?_
  refine kN 1 rfl ?_
  refine ACode_block ?_
  refine ACode_loopW (fun k0 E H => ∃ (x2 : Int) (x3 : Src) (x4 : Col), E = [(0, .ptr 0 0), (1, iV p1), (2, iV p2), (6, .ptr 1 0), (7, .ptr 2 0), (8, iV r1.1), (9, iV x2)] ∧ H = [.box (srcD x3), .box (colD Col.zero), .box (colD x4)] ∧ spec_l01DrawOf_l0 p1 p2 r1 k0 x2 x3 x4 = some s12) k _ _ (Weak_keep 1 hm [0, 1, 2, 6, 7, 8, 9] [1, 2] _ _ rfl rfl rfl) ⟨_, _, _, rfl, rfl, h⟩ ?_
  clear h
  rintro k0 E H ⟨x2, x3, x4, rfl, rfl, h⟩
  cases k0 with
  | zero => cases (show (none : Option (Src × Col)) = some _ from h)
  | succ k0 =>
   rw [spec_l01DrawOf_l0] at h
   refine ACode_seq ?_
   refine kR ?_
   refine kM 3 rfl ?_
   refine AOps_q 20 _ rfl rfl rfl (QOp_sub _ _ _ _ _ _ _ rfl rfl rfl) ?_
   refine AOps_q 21 _ rfl rfl rfl (QOp_mul _ _ _ _ _ _ _ rfl rfl rfl) ?_
   refine AOps_q 22 _ rfl rfl rfl (QOp_quo _ _ _ _ _ _ _ (by decide) rfl rfl rfl) ?_
   refine AOps_q 23 _ rfl rfl rfl (QOp_lss _ _ _ _ _ _ _ rfl rfl rfl) ?_
   refine AOps_nil ?_
   refine kI h rfl (fun h _ => ?_) (fun h _ => ?_)
   ·refine ACode_skip ?_
    refine kB (fun s11 => [(0, .ptr 0 0), (1, iV p1), (2, iV p2), (6, .ptr 1 0), (7, .ptr 2 0), (8, iV r1.1), (9, iV x2)]) (fun s11 => [.box (srcD s11.1), .box (colD Col.zero), .box (colD s11.2)]) h (fun s11 h => ?_) (fun s11 h => ?_)
    ·refine ACode_block ?_
     refine kR ?_
     refine kM 2 rfl ?_
     obtain ⟨r6, hr6, h⟩ := bindO h
     refine kC [0] 28 (iV r6.1) [.box (srcD r6.2), .box (colD Col.zero), .box (colD x4)] rfl Try.call34 rfl rfl (spec_l01Next_ac x3 p2 _ hr6) rfl ?_
     refine kN 1 rfl ?_
     refine kB (fun s9 => [(0, .ptr 0 0), (1, iV p1), (2, iV p2), (6, .ptr 1 0), (7, .ptr 2 0), (8, iV r1.1), (9, iV x2), (10, iV s9.1)]) (fun s9 => [.box (srcD s9.2), .box (colD Col.zero), .box (colD x4)]) h (fun s9 h => ?_) (fun s9 h => ?_)
     ·refine kR ?_
      refine kM 1 rfl ?_
      obtain ⟨r7, hr7, h⟩ := bindO h
      refine kC [0] 30 (iV r7.1) [.box (srcD r7.2), .box (colD Col.zero), .box (colD x4)] rfl Try.call34 rfl rfl (spec_l01Next_ac r6.2 5 _ hr7) rfl ?_
      refine AOps_q 31 _ rfl rfl rfl (QOp_eql _ _ _ _ _ _ _ rfl rfl rfl) ?_
      refine AOps_nil ?_
      refine kI h rfl (fun h _ => ?_) (fun h _ => ?_)
      ·refine (ACode_region ?_)
       refine kN 2 rfl ?_
       cases h
       exact Weak_keep 1 hm [0, 1, 2, 6, 7, 8, 9, 10] [1, 2] _ _ rfl rfl rfl
      refine ACode_skip ?_
      cases h
      exact Weak_keep 1 hm [0, 1, 2, 6, 7, 8, 9, 10] [1, 2] _ _ rfl rfl rfl
     refine (ACode_region ?_)
     refine kM 2 rfl ?_
     refine AOps_q 35 _ rfl rfl rfl (QOp_toByte _ _ _ _ _ rfl rfl Try.underlying5 rfl) ?_
     refine AOps_q 36 _ rfl rfl rfl (QOp_fieldAddr_ptr _ _ _ _ _ _ 2 _ _ rfl Try.underlying29 rfl _ Try.sizeOf27 rfl rfl rfl rfl) ?_
     obtain ⟨hc10, h⟩ := guardO h
     refine AOps_q 37 _ rfl rfl rfl (QOp_indexAddrA_ptr _ _ _ _ _ _ _ _ _ _ rfl Try.underlying27 Try.sizeOf5 hc10.1 hc10.2 rfl rfl rfl rfl) ?_
     refine AOps_store1 _ _ _ _ _ _ (colD (x4.set x2.toNat (toByte s9.1))) _ rfl rfl rfl rfl rfl rfl rfl Try.sizeOf5 (by rw [colD_length]; omega) (colD_setE x4 x2.toNat (toByte s9.1)) ?_
     refine AOps_nil ?_
     cases h
     exact Weak_keep 1 hm [0, 1, 2, 6, 7, 8, 9] [1, 2] _ _ rfl rfl rfl
    refine (ACode_region ?_)
    refine kM 1 rfl ?_
    refine AOps_q 25 _ rfl rfl rfl (QOp_add _ _ _ _ _ _ _ rfl rfl rfl) ?_
    refine kN 1 rfl ?_
    exact ⟨k0, _, _, Nat.lt_succ_self _, Weak_keep 1 hm [0, 1, 2, 6, 7, 8, 9] [1, 2] _ _ rfl rfl rfl, _, _, _, rfl, rfl, h⟩
   refine ACode_exit ?_
   cases h
   exact Weak_keep 1 hm [6, 7] [1, 2] _ _ rfl rfl rfl
 refine kR ?_
 refine AOps_q 38 _ rfl rfl rfl (QOp_loadN_ptr _ _ _ _ _ _ _ rfl Try.isAgg29 Try.sizeOf29 rfl rfl (colD_all _) (colD_length _)) ?_
 refine AOps_store _ _ _ _ _ _ (colD _) _ _ rfl rfl rfl rfl rfl rfl rfl (colD_one _) (by rw [colD_length]; exact Try.sizeOf29) (by rw [colD_length, colD_length]; decide) (colD_whole _ _) ?_
 refine AOps_nil ?_
 refine ACode_ret ?_
 cases h
 exact ⟨_, _, fun r a w h => ⟨r, h⟩, _, _, [], _, (.cons (ResV_agg _ _ _ _ _ _ Try.isAgg29 Try.sizeOf29 rfl rfl (colD_take _) (colD_length _)) .nil), rfl, rfl, rfl, rfl, rfl⟩

-- loop.example/g01362/spec.l01Small
def spec_l01Small (k : Nat) (p0 : Src) : Option (Col × Src) :=
 (spec_l01Next p0 5).bind fun r1 => (if decide (r1.1 = 0) then (spec_l01Named k (⟨#[112, 101, 110, 116, 97, 103, 111, 110]⟩ : ByteArray)).bind fun r3 => (spec_l01DrawOrder k r1.2 5).bind fun r4 => (spec_l01Renamed k r3.1 r4.1).bind fun r5 => some (r5, r4.2) else (spec_l01Next r1.2 6).bind fun r6 => (spec_l01Pick r6.2 ([1, 2, 2, 2, 3, 4])).bind fun r7 => (spec_l01DrawOf k r7.2 (w64 (1 + r6.1)) r7.1).bind fun r8 => some (r8.1, r8.2))
set_option maxRecDepth 100000 in
theorem spec_l01Small_ac (k : Nat) (p0 : Src) (r : Col × Src) (h : spec_l01Small k p0 = some r) : AC Try.prog 129 [.ptr 0 0] [.box (srcD p0)] (fun res H' => res = [.d (.agg (colD r.1))] ∧ H' = [.box (srcD r.2)]) := by
 refine AC_of_body true Try.func129 rfl Try.ntmps129 (rvs := [.cell 2 29]) rfl rfl (fun G hG => ?_)
 have hm : G.H.length = 1 := by rw [hG]; rfl
 have hz : zeroG G.H = true := by rw [hG]; rfl
 unfold spec_l01Small at h
 refine kR ?_
 refine AOps_alloc 2 _ _ (colD Col.zero) (zero_of Try.typeInfo29 rfl) (by rfl) rfl rfl rfl rfl ?_
 refine AOps_nil ?_
 refine ACode_seq ?_
 refine kR ?_
 refine kM 1 rfl ?_
 obtain ⟨r1, hr1, h⟩ := bindO h
 refine kC [0] 6 (iV r1.1) [.box (srcD r1.2), .box (colD Col.zero)] rfl Try.call34 rfl rfl (spec_l01Next_ac p0 5 _ hr1) rfl ?_
 refine AOps_q 7 _ rfl rfl rfl (QOp_eql _ _ _ _ _ _ _ rfl rfl rfl) ?_
 refine AOps_nil ?_
 refine kI h rfl (fun h _ => ?_) (fun h _ => ?_)
 ·refine kR ?_
  obtain ⟨r3, hr3, h⟩ := bindO h
  refine kC [] 9 (.tup [.d (.agg (colD r3.1)), bV r3.2]) [.box (srcD r1.2), .box (colD Col.zero)] rfl Try.call128 rfl rfl (spec_l01Named_ac k (⟨#[112, 101, 110, 116, 97, 103, 111, 110]⟩ : ByteArray) _ hr3) rfl ?_
  refine kM 3 rfl ?_
  refine AOps_alloc 3 _ _ (colD Col.zero) (zero_of Try.typeInfo29 rfl) (by rfl) rfl rfl rfl rfl ?_
  refine AOps_store _ _ _ _ _ _ (colD _) _ _ rfl rfl rfl rfl rfl rfl rfl (colD_one _) (by rw [colD_length]; exact Try.sizeOf29) (by rw [colD_length, colD_length]; decide) (colD_whole _ _) ?_
  refine kN 1 rfl ?_
  obtain ⟨r4, hr4, h⟩ := bindO h
  obtain ⟨r5, hr5, h⟩ := bindO h
  refine ACode_seq (ACode_reg [(2, .ptr 1 0)] [.box (srcD r4.2), .box (colD r5)] ?_ ?_)
  ·refine ACode_anyU mixed ?_
   refine AU_cut 2 #[true, true, true, false, false] [(2, .ptr 1 0), (12, .d (.agg (colD r3.1))), (14, .vec 2 0)] [.box (srcD r4.2), .box (colD Col.zero), .vec 0 (intsD r4.1)] ?_ (fun hS0 => ?_)
   ·refine AU_one 3 (by kernel_rfl) rfl rfl ?_
    refine AOps_callL [] 15 _ _ _ _ _ _ _ _ _ _ rfl rfl rfl rfl rfl rfl rfl Try.call131 rfl (nodupB_sound _ rfl) rfl rfl rfl (spec_l01Renamed_ac k r3.1 r4.1 _ hr5) ?_
    rintro _ _ ⟨rfl, rfl⟩
    refine ⟨(fun _ h => nomatch h), (allc (flat_agg (colD_flat _)) (fun _ h => nomatch h)), AOps_as 15 (v' := .d (.agg (colD r5))) (H' := [.box (srcD r4.2), .box (colD Col.zero), .vec 0 (intsD r4.1)]) rfl rfl ?_⟩
    refine AOps_nil ?_
    refine AU_one 4 (by kernel_rfl) rfl rfl ?_
    refine AOps_store _ _ _ _ _ _ (colD _) _ _ rfl rfl rfl rfl rfl rfl rfl (colD_one _) (by rw [colD_length]; exact Try.sizeOf29) (by rw [colD_length, colD_length]; decide) (colD_whole _ _) ?_
    refine AOps_nil ?_
    refine AU_done (by kernel_rfl) ?_
    exact ⟨rfl, Weak_keep 1 hm [2] [1] _ _ rfl rfl rfl⟩
   refine AU_u 1 13 _ rfl (by kernel_rfl) rfl rfl rfl (UOp_move _ _ rfl rfl) ?_
   refine AU_all [0, 2] (by kernel_rfl) rfl (allc ?_ (allc ?_ (fun _ h => nomatch h)))
   ·refine US_of 0 rfl rfl ?_
    refine AOps_q 12 _ rfl rfl rfl (QOp_loadN_ptr _ _ _ _ _ _ _ rfl Try.isAgg29 Try.sizeOf29 rfl rfl (colD_all _) (colD_length _)) ?_
    refine AOps_nil ?_
    refine AU_one 2 (by kernel_rfl) rfl rfl ?_
    refine kC [0] 14 (.vec 3 0) [.box (srcD r4.2), .box (colD Col.zero), .box (colD r3.1), .vec 0 (intsD r4.1)] rfl Try.call132 rfl rfl (spec_l01DrawOrder_ac k r1.2 5 _ hr4) rfl ?_
    refine AOps_nil ?_
    exact AU_to (by kernel_rfl) hS0 (Weak_keep 1 hm [2, 12, 14] [1, 3] _ _ rfl rfl rfl)
   refine US_of 2 rfl rfl ?_
   refine kC [0] 14 (.vec 3 0) [.box (srcD r4.2), .box (colD Col.zero), .box (colD r3.1), .vec 0 (intsD r4.1)] rfl Try.call132 rfl rfl (spec_l01DrawOrder_ac k r1.2 5 _ hr4) rfl ?_
   refine AOps_nil ?_
   refine AU_one 0 (by kernel_rfl) rfl rfl ?_
   refine AOps_q 12 _ rfl rfl rfl (QOp_loadN_ptr _ _ _ _ _ _ _ rfl Try.isAgg29 Try.sizeOf29 rfl rfl (colD_all _) (colD_length _)) ?_
   refine AOps_nil ?_
   exact AU_to (by kernel_rfl) hS0 (Weak_keep 1 hm [2, 12, 14] [1, 3] _ _ rfl rfl rfl)
  refine ACode_ret ?_
  cases h
  exact ⟨_, _, fun r a w h => ⟨r, h⟩, _, _, [], _, (.cons (ResV_agg _ _ _ _ _ _ Try.isAgg29 Try.sizeOf29 rfl rfl (colD_take _) (colD_length _)) .nil), rfl, rfl, rfl, rfl, rfl⟩
 refine ACode_skip ?_
 refine kR ?_
 refine kM 2 rfl ?_
 obtain ⟨r6, hr6, h⟩ := bindO h
 refine kC [0] 18 (iV r6.1) [.box (srcD r6.2), .box (colD Col.zero)] rfl Try.call34 rfl rfl (spec_l01Next_ac r1.2 6 _ hr6) rfl ?_
 refine AOps_q 19 _ rfl rfl rfl (QOp_add _ _ _ _ _ _ _ rfl rfl rfl) ?_
 refine kM 1 rfl ?_
 refine AOps_buildSlice 21 _ _ _ [_, _, _, _, _, _] (intsD ([1, 2, 2, 2, 3, 4])) _ rfl rfl rfl rfl rfl (by decide) Try.underlying24 Try.sizeOf2 (zero_of Try.typeInfo2 rfl) rfl rfl (intsD_one _) ?_
 refine AOps_freezeL [21] 2 0 _ (allc (rfl) (fun _ h => nomatch h)) rfl ?_
 obtain ⟨r7, hr7, h⟩ := bindO h
 refine kC [0] 22 (iV r7.1) [.box (srcD r7.2), .box (colD Col.zero), .gone] rfl Try.call36 rfl rfl (spec_l01Pick_ac r6.2 ([1, 2, 2, 2, 3, 4]) _ hr7) rfl ?_
 obtain ⟨r8, hr8, h⟩ := bindO h
 refine kC [0] 23 (.d (.agg (colD r8.1))) [.box (srcD r8.2), .box (colD Col.zero), .gone] rfl Try.call134 rfl rfl (spec_l01DrawOf_ac k r7.2 (w64 (1 + r6.1)) r7.1 _ hr8) rfl ?_
 refine AOps_store _ _ _ _ _ _ (colD _) _ _ rfl rfl rfl rfl rfl rfl rfl (colD_one _) (by rw [colD_length]; exact Try.sizeOf29) (by rw [colD_length, colD_length]; decide) (colD_whole _ _) ?_
 refine AOps_nil ?_
 refine ACode_ret ?_
 cases h
 exact ⟨_, _, fun r a w h => ⟨r, h⟩, _, _, [], _, (.cons (ResV_agg _ _ _ _ _ _ Try.isAgg29 Try.sizeOf29 rfl rfl (colD_take _) (colD_length _)) .nil), rfl, rfl, rfl, rfl, rfl⟩

-- loop.example/g01362/spec.l05With
def spec_l05With_l0 (r7 : Col × Bool) (r8 : List Int × Src) : Nat → Int → (List Int) → Option (List Int × Src × Col)
 | 0, _, _ => none
 | k0 + 1, x12, x13 => (if decide (x12 < (x13.length : Int)) then (if 0 ≤ x12 ∧ x12 < (x13.length : Int) then spec_l05With_l0 r7 r8 k0 (w64 (x12 + 1)) (x13.set x12.toNat 3) else none) else some (x13, r8.2, r7.1))
def spec_l05With (k : Nat) (p0 : Src) : Option (Col × List Int × Src) :=
 (spec_l05Grown k p0).bind fun r1 => ((spec_l01Next r1.2.2 6).bind fun r2 => (if decide (r2.1 = 0) then (spec_l01Next r2.2 5).bind fun r5 => (if 0 ≤ r5.1 ∧ r5.1 < ((spec_l01Names).length : Int) then (spec_l01Named k ((spec_l01Names).getD r5.1.toNat ByteArray.empty)).bind fun r7 => (spec_l05DrawSizes k r5.2 r7.1.k).bind fun r8 => letO (if decide (r7.1.p = 5) then true else decide (r7.1.k = 3)) fun (s10 : Bool) => (if s10 then spec_l05With_l0 r7 r8 k 0 r8.1 else some (r8.1, r8.2, r7.1)) else none) else (if decide (r2.1 = 1) then (spec_l01Small k r2.2).bind fun r17 => (spec_l05DrawSizes k r17.2 r17.1.k).bind fun r18 => some (r18.1, r18.2, r17.1) else some (r1.2.1, r2.2, r1.1))) : Option (List Int × Src × Col)).bind fun s19 => ((spec_l01Next s19.2.1 20).bind fun r20 => (if decide (r20.1 = 0) then (spec_l01Own s19.1).bind fun r22 => (if r22.length + ([3]).length ≤ 1099511627776 then some ((r22 ++ ([3])), r20.2) else none) else (if decide (r20.1 = 1) then (spec_l01Own s19.1).bind fun r25 => (spec_l01Pick r20.2 ([0, 1, 1, 18, (-1)])).bind fun r26 => (if 0 ≤ (0 : Int) ∧ (0 : Int) < (r25.length : Int) then some (r25.set (0 : Int).toNat r26.1, r26.2) else none) else some (s19.1, r20.2))) : Option (List Int × Src)).bind fun s28 => some (s19.2.2, s28.1, s28.2)
set_option maxRecDepth 100000 in
theorem spec_l05With_ac (k : Nat) (p0 : Src) (r : Col × List Int × Src) (h : spec_l05With k p0 = some r) : AC Try.prog 106 [.ptr 0 0] [.box (srcD p0)] (fun res H' => res = [.d (.agg (colD r.1)), .d (.sl none (intsD r.2.1))] ∧ H' = [.box (srcD r.2.2)]) := by
 refine AC_of_body true Try.func106 rfl Try.ntmps106 (rvs := [.cell 2 29, .tmp 3]) rfl rfl (fun G hG => ?_)
 have hm : G.H.length = 1 := by rw [hG]; rfl
 have hz : zeroG G.H = true := by rw [hG]; rfl
 unfold spec_l05With at h
 refine kR ?_
 refine AOps_alloc 2 _ _ (colD Col.zero) (zero_of Try.typeInfo29 rfl) (by rfl) rfl rfl rfl rfl ?_
 refine kN 1 rfl ?_
 refine kR ?_
 refine kM 1 rfl ?_
 obtain ⟨r1, hr1, h⟩ := bindO h
 refine kC [0] 10 (.tup [.d (.agg (colD r1.1)), .d (.sl none (intsD r1.2.1))]) [.box (srcD r1.2.2), .box (colD Col.zero)] rfl Try.call126 rfl rfl (spec_l05Grown_ac k p0 _ hr1) rfl ?_
 refine kM 3 rfl ?_
 refine AOps_alloc 4 _ _ (colD Col.zero) (zero_of Try.typeInfo29 rfl) (by rfl) rfl rfl rfl rfl ?_
 refine AOps_store _ _ _ _ _ _ (colD _) _ _ rfl rfl rfl rfl rfl rfl rfl (colD_one _) (by rw [colD_length]; exact Try.sizeOf29) (by rw [colD_length, colD_length]; decide) (colD_whole _ _) ?_
 refine kN 1 rfl ?_
 refine kB (fun s19 => [(0, .ptr 0 0), (2, .ptr 1 0), (4, .ptr 2 0), (5, .d (.sl none (intsD s19.1)))]) (fun s19 => [.box (srcD s19.2.1), .box (colD Col.zero), .box (colD s19.2.2)]) h (fun s19 h => ?_) (fun s19 h => ?_)
 ·refine kR ?_
  refine kM 1 rfl ?_
  obtain ⟨r2, hr2, h⟩ := bindO h
  refine kC [0] 14 (iV r2.1) [.box (srcD r2.2), .box (colD Col.zero), .box (colD r1.1)] rfl Try.call34 rfl rfl (spec_l01Next_ac r1.2.2 6 _ hr2) rfl ?_
  refine AOps_nil ?_
  refine ACode_block ?_
  refine kR ?_
  refine AOps_q 16 _ rfl rfl rfl (QOp_eql _ _ _ _ _ _ _ rfl rfl rfl) ?_
  refine kN 1 rfl ?_
  refine kI h rfl (fun h _ => ?_) (fun h _ => ?_)
  ·refine kR ?_
   refine kC [] 17 (.vec 3 0) [.box (srcD r2.2), .box (colD Col.zero), .box (colD r1.1), .vec 0 (stsD (spec_l01Names))] rfl Try.call127 rfl rfl (spec_l01Names_ac) rfl ?_
   refine kN 1 rfl ?_
   refine kR ?_
   refine kM 2 rfl ?_
   obtain ⟨r5, hr5, h⟩ := bindO h
   refine kC [0] 21 (iV r5.1) [.box (srcD r5.2), .box (colD Col.zero), .box (colD r1.1), .vec 0 (stsD (spec_l01Names))] rfl Try.call34 rfl rfl (spec_l01Next_ac r2.2 5 _ hr5) rfl ?_
   obtain ⟨hc6, h⟩ := guardO h
   refine AOps_q 22 _ rfl rfl rfl (QOp_indexAddr_vec _ _ _ _ _ _ _ _ _ rfl Try.underlying122 Try.sizeOf9 hc6.1 (by rw [stsD_length]; exact hc6.2) rfl rfl rfl) ?_
   refine AOps_q 23 _ rfl rfl rfl (QOp_load_eptr _ _ _ _ _ _ _ rfl Try.isAgg9 rfl rfl (stsD_get _ _ ByteArray.empty (by omega))) ?_
   obtain ⟨r7, hr7, h⟩ := bindO h
   refine kC [] 24 (.tup [.d (.agg (colD r7.1)), bV r7.2]) [.box (srcD r5.2), .box (colD Col.zero), .box (colD r1.1), .vec 0 (stsD (spec_l01Names))] rfl Try.call128 rfl rfl (spec_l01Named_ac k ((spec_l01Names).getD r5.1.toNat ByteArray.empty) _ hr7) rfl ?_
   refine kM 3 rfl ?_
   refine AOps_store _ _ _ _ _ _ (colD _) _ _ rfl rfl rfl rfl rfl rfl rfl (colD_one _) (by rw [colD_length]; exact Try.sizeOf29) (by rw [colD_length, colD_length]; decide) (colD_whole _ _) ?_
   refine AOps_nil ?_
   refine kR ?_
   refine kM 1 rfl ?_
   refine AOps_q 28 _ rfl rfl rfl (QOp_fieldAddr_ptr _ _ _ _ _ _ 1 _ _ rfl Try.underlying29 rfl _ Try.sizeOf2 rfl rfl rfl rfl) ?_
   refine AOps_q 29 _ rfl rfl rfl (QOp_load_ptr _ _ _ _ _ _ rfl Try.isAgg2 rfl rfl rfl) ?_
   obtain ⟨r8, hr8, h⟩ := bindO h
   refine kC [0] 30 (.vec 4 0) [.box (srcD r8.2), .box (colD Col.zero), .box (colD r7.1), .vec 0 (stsD (spec_l01Names)), .vec 0 (intsD r8.1)] rfl Try.call35 rfl rfl (spec_l05DrawSizes_ac k r5.2 r7.1.k _ hr8) rfl ?_
   refine kN 1 rfl ?_
   refine kL (fun s10 => [(0, .ptr 0 0), (2, .ptr 1 0), (4, .ptr 2 0), (5, .vec 3 0), (38, bV s10)]) (fun s10 => [.box (srcD r8.2), .box (colD Col.zero), .box (colD r7.1), .vec 0 (intsD r8.1)]) h (fun s10 h => ?_) (fun s10 h => ?_)
   ·refine (ACode_region ?_)
    refine AOps_q 31 _ rfl rfl rfl (QOp_fieldAddr_ptr _ _ _ _ _ _ 0 _ _ rfl Try.underlying29 rfl _ Try.sizeOf2 rfl rfl rfl rfl) ?_
    refine AOps_q 32 _ rfl rfl rfl (QOp_load_ptr _ _ _ _ _ _ rfl Try.isAgg2 rfl rfl rfl) ?_
    refine AOps_q 33 _ rfl rfl rfl (QOp_eql _ _ _ _ _ _ _ rfl rfl rfl) ?_
    refine kM 1 rfl ?_
    refine AOps_case 34 _ rfl (fun hb9 => ?_) (fun hb9 => ?_)
    ·have h := iteT hb9 h
     refine AOps_skip 35 rfl rfl rfl ?_
     refine AOps_skip 36 rfl rfl rfl ?_
     refine AOps_skip 37 rfl rfl rfl ?_
     refine kN 1 rfl ?_
     cases h
     exact Weak_keep 1 hm [0, 2, 4, 5, 38] [1, 2, 4] _ _ rfl rfl rfl
    have h := iteF hb9 h
    refine AOps_q 35 _ rfl rfl rfl (QOp_fieldAddr_ptr _ _ _ _ _ _ 1 _ _ rfl Try.underlying29 rfl _ Try.sizeOf2 rfl rfl rfl rfl) ?_
    refine AOps_q 36 _ rfl rfl rfl (QOp_load_ptr _ _ _ _ _ _ rfl Try.isAgg2 rfl rfl rfl) ?_
    refine AOps_q 37 _ rfl rfl rfl (QOp_eql _ _ _ _ _ _ _ rfl rfl rfl) ?_
    refine kN 1 rfl ?_
    cases h
    exact Weak_keep 1 hm [0, 2, 4, 5, 38] [1, 2, 4] _ _ rfl rfl rfl
   refine kI h rfl (fun h _ => ?_) (fun h _ => ?_)
   ·refine kR ?_
    refine kN 1 rfl ?_
    refine ACode_block ?_
    refine ACode_loopW (fun k0 E H => ∃ (x12 : Int) (x13 : List Int), E = [(0, .ptr 0 0), (2, .ptr 1 0), (4, .ptr 2 0), (5, .vec 3 0), (7, iV x12)] ∧ H = [.box (srcD r8.2), .box (colD Col.zero), .box (colD r7.1), .vec 0 (intsD x13)] ∧ spec_l05With_l0 r7 r8 k0 x12 x13 = some s19) k _ _ (Weak_keep 1 hm [0, 2, 4, 5, 7] [1, 2, 3] _ _ rfl rfl rfl) ⟨_, _, rfl, rfl, h⟩ ?_
    clear h
    rintro k0 E H ⟨x12, x13, rfl, rfl, h⟩
    cases k0 with
    | zero => cases (show (none : Option (List Int × Src × Col)) = some _ from h)
    | succ k0 =>
     rw [spec_l05With_l0] at h
     refine ACode_seq ?_
     refine kR ?_
     refine kM 2 rfl ?_
     refine AOps_q 41 _ rfl rfl rfl (QOp_len_vec _ _ _ _ _ _ _ _ (intsD_length _) rfl rfl rfl rfl Try.underlying24 rfl rfl) ?_
     refine AOps_q 42 _ rfl rfl rfl (QOp_lss _ _ _ _ _ _ _ rfl rfl rfl) ?_
     refine AOps_nil ?_
     refine kI h rfl (fun h _ => ?_) (fun h _ => ?_)
     ·refine ACode_skip ?_
      refine ACode_seq ?_
      refine ACode_block ?_
      refine (ACode_region ?_)
      refine kM 2 rfl ?_
      obtain ⟨hc15, h⟩ := guardO h
      refine AOps_q 47 _ rfl rfl rfl (QOp_indexAddr_vec _ _ _ _ _ _ _ _ _ rfl Try.underlying24 Try.sizeOf2 hc15.1 (by rw [intsD_length]; exact hc15.2) rfl rfl rfl) ?_
      refine AOps_store_eptr _ _ _ _ _ _ (intsD x13) _ rfl rfl rfl rfl rfl rfl rfl Try.sizeOf2 (by rw [intsD_length]; omega) ?_
      rw [intsD_set]
      refine AOps_nil ?_
      refine (ACode_region ?_)
      refine kM 1 rfl ?_
      refine AOps_q 44 _ rfl rfl rfl (QOp_add _ _ _ _ _ _ _ rfl rfl rfl) ?_
      refine kN 1 rfl ?_
      exact ⟨k0, _, _, Nat.lt_succ_self _, Weak_keep 1 hm [0, 2, 4, 5, 7] [1, 2, 3] _ _ rfl rfl rfl, _, _, rfl, rfl, h⟩
     refine ACode_exit ?_
     cases h
     exact Weak_trans (Weak_frz [5, 40] [] 3 0 _ (allc (rfl) (allc (rfl) (fun _ h => nomatch h))) (fun _ h => nomatch h) rfl) (Weak_keep 1 hm [0, 2, 4, 5] [1, 2] _ _ rfl rfl rfl)
   refine ACode_skip ?_
   cases h
   exact Weak_trans (Weak_frz [5] [] 3 0 _ (allc (rfl) (fun _ h => nomatch h)) (fun _ h => nomatch h) rfl) (Weak_keep 1 hm [0, 2, 4, 5] [1, 2] _ _ rfl rfl rfl)
  refine kR ?_
  refine AOps_q 49 _ rfl rfl rfl (QOp_eql _ _ _ _ _ _ _ rfl rfl rfl) ?_
  refine kN 1 rfl ?_
  refine kI h rfl (fun h _ => ?_) (fun h _ => ?_)
  ·refine kR ?_
   refine kM 1 rfl ?_
   obtain ⟨r17, hr17, h⟩ := bindO h
   refine kC [0] 51 (.d (.agg (colD r17.1))) [.box (srcD r17.2), .box (colD Col.zero), .box (colD r1.1)] rfl Try.call129 rfl rfl (spec_l01Small_ac k r2.2 _ hr17) rfl ?_
   refine AOps_store _ _ _ _ _ _ (colD _) _ _ rfl rfl rfl rfl rfl rfl rfl (colD_one _) (by rw [colD_length]; exact Try.sizeOf29) (by rw [colD_length, colD_length]; decide) (colD_whole _ _) ?_
   refine AOps_nil ?_
   refine (ACode_region ?_)
   refine kM 1 rfl ?_
   refine AOps_q 53 _ rfl rfl rfl (QOp_fieldAddr_ptr _ _ _ _ _ _ 1 _ _ rfl Try.underlying29 rfl _ Try.sizeOf2 rfl rfl rfl rfl) ?_
   refine AOps_q 54 _ rfl rfl rfl (QOp_load_ptr _ _ _ _ _ _ rfl Try.isAgg2 rfl rfl rfl) ?_
   obtain ⟨r18, hr18, h⟩ := bindO h
   refine kC [0] 55 (.vec 3 0) [.box (srcD r18.2), .box (colD Col.zero), .box (colD r17.1), .vec 0 (intsD r18.1)] rfl Try.call35 rfl rfl (spec_l05DrawSizes_ac k r17.2 r17.1.k _ hr18) rfl ?_
   refine kN 1 rfl ?_
   cases h
   exact Weak_trans (Weak_frz [5, 55] [] 3 0 _ (allc (rfl) (allc (rfl) (fun _ h => nomatch h))) (fun _ h => nomatch h) rfl) (Weak_keep 1 hm [0, 2, 4, 5] [1, 2] _ _ rfl rfl rfl)
  refine ACode_skip ?_
  cases h
  exact Weak_keep 1 hm [0, 2, 4, 5] [1, 2] _ _ rfl rfl rfl
 refine kB (fun s28 => [(2, .ptr 1 0), (4, .ptr 2 0), (5, .d (.sl none (intsD s28.1)))]) (fun s28 => [.box (srcD s28.2), .box (colD Col.zero), .box (colD s19.2.2)]) h (fun s28 h => ?_) (fun s28 h => ?_)
 ·refine kR ?_
  refine kM 1 rfl ?_
  obtain ⟨r20, hr20, h⟩ := bindO h
  refine kC [0] 57 (iV r20.1) [.box (srcD r20.2), .box (colD Col.zero), .box (colD s19.2.2)] rfl Try.call34 rfl rfl (spec_l01Next_ac s19.2.1 20 _ hr20) rfl ?_
  refine AOps_nil ?_
  refine ACode_block ?_
  refine kR ?_
  refine AOps_q 59 _ rfl rfl rfl (QOp_eql _ _ _ _ _ _ _ rfl rfl rfl) ?_
  refine kN 1 rfl ?_
  refine kI h rfl (fun h _ => ?_) (fun h _ => ?_)
  ·refine (ACode_region ?_)
   refine kM 1 rfl ?_
   obtain ⟨r22, hr22, h⟩ := bindO h
   refine kC [] 61 (.vec 3 0) [.box (srcD r20.2), .box (colD Col.zero), .box (colD s19.2.2), .vec 0 (intsD r22)] rfl Try.call130 rfl rfl (spec_l01Own_ac s19.1 _ hr22) rfl ?_
   refine AOps_buildSlice 62 _ _ _ [_] (intsD ([3])) _ rfl rfl rfl rfl rfl (by decide) Try.underlying24 Try.sizeOf2 (zero_of Try.typeInfo2 rfl) rfl rfl (intsD_one _) ?_
   obtain ⟨hc23, h⟩ := guardO h
   refine AOps_append 63 _ _ _ _ _ _ _ _ _ _ _ _ rfl rfl rfl rfl rfl rfl rfl Try.underlying24 Try.type2 rfl rfl rfl (by decide) rfl rfl rfl rfl (intsD_one _) (by rw [intsD_length, intsD_length]; exact hc23) ?_
   rw [intsD_app]
   refine kN 1 rfl ?_
   cases h
   exact Weak_trans (Weak_frz [5, 63] [] 3 1 _ (allc (rfl) (allc (rfl) (fun _ h => nomatch h))) (fun _ h => nomatch h) rfl) (Weak_keep 1 hm [2, 4, 5] [1, 2] _ _ rfl rfl rfl)
  refine kR ?_
  refine AOps_q 65 _ rfl rfl rfl (QOp_eql _ _ _ _ _ _ _ rfl rfl rfl) ?_
  refine kN 1 rfl ?_
  refine kI h rfl (fun h _ => ?_) (fun h _ => ?_)
  ·refine kR ?_
   refine kM 1 rfl ?_
   obtain ⟨r25, hr25, h⟩ := bindO h
   refine kC [] 67 (.vec 3 0) [.box (srcD r20.2), .box (colD Col.zero), .box (colD s19.2.2), .vec 0 (intsD r25)] rfl Try.call130 rfl rfl (spec_l01Own_ac s19.1 _ hr25) rfl ?_
   refine kN 1 rfl ?_
   refine (ACode_region ?_)
   refine kM 2 rfl ?_
   refine AOps_buildSlice 70 _ _ _ [_, _, _, _, _] (intsD ([0, 1, 1, 18, (-1)])) _ rfl rfl rfl rfl rfl (by decide) Try.underlying24 Try.sizeOf2 (zero_of Try.typeInfo2 rfl) rfl rfl (intsD_one _) ?_
   refine AOps_freezeL [70] 4 0 _ (allc (rfl) (fun _ h => nomatch h)) rfl ?_
   obtain ⟨r26, hr26, h⟩ := bindO h
   refine kC [0] 71 (iV r26.1) [.box (srcD r26.2), .box (colD Col.zero), .box (colD s19.2.2), .vec 0 (intsD r25), .gone] rfl Try.call36 rfl rfl (spec_l01Pick_ac r20.2 ([0, 1, 1, 18, (-1)]) _ hr26) rfl ?_
   obtain ⟨hc27, h⟩ := guardO h
   refine AOps_q 72 _ rfl rfl rfl (QOp_indexAddr_vec _ _ _ _ _ _ _ _ _ rfl Try.underlying24 Try.sizeOf2 hc27.1 (by rw [intsD_length]; exact hc27.2) rfl rfl rfl) ?_
   refine AOps_store_eptr _ _ _ _ _ _ (intsD r25) _ rfl rfl rfl rfl rfl rfl rfl Try.sizeOf2 (by rw [intsD_length]; omega) ?_
   rw [intsD_set]
   refine AOps_nil ?_
   cases h
   exact Weak_trans (Weak_frz [5, 67, 68] [] 3 0 _ (allc (rfl) (allc (rfl) (allc (rfl) (fun _ h => nomatch h)))) (fun _ h => nomatch h) rfl) (Weak_keep 1 hm [2, 4, 5] [1, 2] _ _ rfl rfl rfl)
  refine ACode_skip ?_
  cases h
  exact Weak_keep 1 hm [2, 4, 5] [1, 2] _ _ rfl rfl rfl
 refine kR ?_
 refine AOps_q 73 _ rfl rfl rfl (QOp_loadN_ptr _ _ _ _ _ _ _ rfl Try.isAgg29 Try.sizeOf29 rfl rfl (colD_all _) (colD_length _)) ?_
 refine kM 1 rfl ?_
 refine AOps_store _ _ _ _ _ _ (colD _) _ _ rfl rfl rfl rfl rfl rfl rfl (colD_one _) (by rw [colD_length]; exact Try.sizeOf29) (by rw [colD_length, colD_length]; decide) (colD_whole _ _) ?_
 refine kN 1 rfl ?_
 refine ACode_ret ?_
 cases h
 exact ⟨_, _, fun r a w h => ⟨r, h⟩, _, _, [], _, (.cons (ResV_agg _ _ _ _ _ _ Try.isAgg29 Try.sizeOf29 rfl rfl (colD_take _) (colD_length _)) (.cons (ResV_tmp _ _ rfl) .nil)), rfl, rfl, rfl, rfl, rfl⟩

-- loop.example/g01362/spec.l01Bad
def spec_l01Bad (p0 : Src) (p1 : Col) : Option (Col × Src) :=
 ((spec_l01Next p0 50).bind fun r1 => (if decide (r1.1 = 0) then (spec_l01Pick r1.2 ([0, 18, (-1), w64 (p1.p - 1)])).bind fun r3 => some (r3.2, (⟨r3.1, p1.k, p1.e⟩ : Col)) else (if decide (r1.1 = 1) then (spec_l01Pick r1.2 ([0, 5, (-1)])).bind fun r5 => some (r5.2, (⟨p1.p, r5.1, p1.e⟩ : Col)) else (if decide (r1.1 = 2) then (spec_l01Next r1.2 136).bind fun r7 => (spec_l01Pick r7.2 ([1, 4, 200])).bind fun r8 => (if 0 ≤ r7.1 ∧ r7.1 < 136 then some (r8.2, p1.set r7.1.toNat (toByte r8.1)) else none) else some (r1.2, p1)))) : Option (Src × Col)).bind fun s10 => some (s10.2, s10.1)
set_option maxRecDepth 100000 in
theorem spec_l01Bad_ac (p0 : Src) (p1 : Col) (r : Col × Src) (h : spec_l01Bad p0 p1 = some r) : AC Try.prog 107 [.ptr 0 0, .d (.agg (colD p1))] [.box (srcD p0)] (fun res H' => res = [.d (.agg (colD r.1))] ∧ H' = [.box (srcD r.2)]) := by
 refine AC_of_body true Try.func107 rfl Try.ntmps107 (rvs := [.cell 4 29]) rfl rfl (fun G hG => ?_)
 have hm : G.H.length = 1 := by rw [hG]; rfl
 have hz : zeroG G.H = true := by rw [hG]; rfl
 unfold spec_l01Bad at h
 refine kR ?_
 refine AOps_boxM 3 _ _ (.agg (colD p1)) (colD p1) rfl (colD_one _) rfl rfl rfl rfl rfl ?_
 refine AOps_alloc 4 _ _ (colD Col.zero) (zero_of Try.typeInfo29 rfl) (by rfl) rfl rfl rfl rfl ?_
 refine AOps_nil ?_
 refine kB (fun s10 => [(3, .ptr 1 0), (4, .ptr 2 0)]) (fun s10 => [.box (srcD s10.1), .box (colD s10.2), .box (colD Col.zero)]) h (fun s10 h => ?_) (fun s10 h => ?_)
 ·refine kR ?_
  refine kM 1 rfl ?_
  obtain ⟨r1, hr1, h⟩ := bindO h
  refine kC [0] 6 (iV r1.1) [.box (srcD r1.2), .box (colD p1), .box (colD Col.zero)] rfl Try.call34 rfl rfl (spec_l01Next_ac p0 50 _ hr1) rfl ?_
  refine AOps_nil ?_
  refine ACode_block ?_
  refine kR ?_
  refine AOps_q 8 _ rfl rfl rfl (QOp_eql _ _ _ _ _ _ _ rfl rfl rfl) ?_
  refine kN 1 rfl ?_
  refine kI h rfl (fun h _ => ?_) (fun h _ => ?_)
  ·refine (ACode_region ?_)
   refine kM 1 rfl ?_
   refine AOps_q 10 _ rfl rfl rfl (QOp_fieldAddr_ptr _ _ _ _ _ _ 0 _ _ rfl Try.underlying29 rfl _ Try.sizeOf2 rfl rfl rfl rfl) ?_
   refine AOps_q 11 _ rfl rfl rfl (QOp_load_ptr _ _ _ _ _ _ rfl Try.isAgg2 rfl rfl rfl) ?_
   refine AOps_q 12 _ rfl rfl rfl (QOp_sub _ _ _ _ _ _ _ rfl rfl rfl) ?_
   refine AOps_buildSlice 13 _ _ _ [_, _, _, _] (intsD ([0, 18, (-1), w64 (p1.p - 1)])) _ rfl rfl rfl rfl rfl (by decide) Try.underlying24 Try.sizeOf2 (zero_of Try.typeInfo2 rfl) rfl rfl (intsD_one _) ?_
   refine AOps_freezeL [13] 3 0 _ (allc (rfl) (fun _ h => nomatch h)) rfl ?_
   obtain ⟨r3, hr3, h⟩ := bindO h
   refine kC [0] 14 (iV r3.1) [.box (srcD r3.2), .box (colD p1), .box (colD Col.zero), .gone] rfl Try.call36 rfl rfl (spec_l01Pick_ac r1.2 ([0, 18, (-1), w64 (p1.p - 1)]) _ hr3) rfl ?_
   refine AOps_q 15 _ rfl rfl rfl (QOp_fieldAddr_ptr _ _ _ _ _ _ 0 _ _ rfl Try.underlying29 rfl _ Try.sizeOf2 rfl rfl rfl rfl) ?_
   refine AOps_store1 _ _ _ _ _ _ (colD (⟨r3.1, p1.k, p1.e⟩ : Col)) _ rfl rfl rfl rfl rfl rfl rfl Try.sizeOf2 (by rw [colD_length]; omega) (colD_set0 _ _) ?_
   refine AOps_nil ?_
   cases h
   exact Weak_keep 1 hm [3, 4] [1, 2] _ _ rfl rfl rfl
  refine kR ?_
  refine AOps_q 17 _ rfl rfl rfl (QOp_eql _ _ _ _ _ _ _ rfl rfl rfl) ?_
  refine kN 1 rfl ?_
  refine kI h rfl (fun h _ => ?_) (fun h _ => ?_)
  ·refine (ACode_region ?_)
   refine kM 1 rfl ?_
   refine AOps_buildSlice 19 _ _ _ [_, _, _] (intsD ([0, 5, (-1)])) _ rfl rfl rfl rfl rfl (by decide) Try.underlying24 Try.sizeOf2 (zero_of Try.typeInfo2 rfl) rfl rfl (intsD_one _) ?_
   refine AOps_freezeL [19] 3 0 _ (allc (rfl) (fun _ h => nomatch h)) rfl ?_
   obtain ⟨r5, hr5, h⟩ := bindO h
   refine kC [0] 20 (iV r5.1) [.box (srcD r5.2), .box (colD p1), .box (colD Col.zero), .gone] rfl Try.call36 rfl rfl (spec_l01Pick_ac r1.2 ([0, 5, (-1)]) _ hr5) rfl ?_
   refine AOps_q 21 _ rfl rfl rfl (QOp_fieldAddr_ptr _ _ _ _ _ _ 1 _ _ rfl Try.underlying29 rfl _ Try.sizeOf2 rfl rfl rfl rfl) ?_
   refine AOps_store1 _ _ _ _ _ _ (colD (⟨p1.p, r5.1, p1.e⟩ : Col)) _ rfl rfl rfl rfl rfl rfl rfl Try.sizeOf2 (by rw [colD_length]; omega) (colD_set1 _ _) ?_
   refine AOps_nil ?_
   cases h
   exact Weak_keep 1 hm [3, 4] [1, 2] _ _ rfl rfl rfl
  refine kR ?_
  refine AOps_q 23 _ rfl rfl rfl (QOp_eql _ _ _ _ _ _ _ rfl rfl rfl) ?_
  refine kN 1 rfl ?_
  refine kI h rfl (fun h _ => ?_) (fun h _ => ?_)
  ·refine (ACode_region ?_)
   refine kM 1 rfl ?_
   obtain ⟨r7, hr7, h⟩ := bindO h
   refine kC [0] 25 (iV r7.1) [.box (srcD r7.2), .box (colD p1), .box (colD Col.zero)] rfl Try.call34 rfl rfl (spec_l01Next_ac r1.2 136 _ hr7) rfl ?_
   refine kM 1 rfl ?_
   refine AOps_buildSlice 27 _ _ _ [_, _, _] (intsD ([1, 4, 200])) _ rfl rfl rfl rfl rfl (by decide) Try.underlying24 Try.sizeOf2 (zero_of Try.typeInfo2 rfl) rfl rfl (intsD_one _) ?_
   refine AOps_freezeL [27] 3 0 _ (allc (rfl) (fun _ h => nomatch h)) rfl ?_
   obtain ⟨r8, hr8, h⟩ := bindO h
   refine kC [0] 28 (iV r8.1) [.box (srcD r8.2), .box (colD p1), .box (colD Col.zero), .gone] rfl Try.call36 rfl rfl (spec_l01Pick_ac r7.2 ([1, 4, 200]) _ hr8) rfl ?_
   refine AOps_q 29 _ rfl rfl rfl (QOp_toByte _ _ _ _ _ rfl rfl Try.underlying5 rfl) ?_
   refine AOps_q 30 _ rfl rfl rfl (QOp_fieldAddr_ptr _ _ _ _ _ _ 2 _ _ rfl Try.underlying29 rfl _ Try.sizeOf27 rfl rfl rfl rfl) ?_
   obtain ⟨hc9, h⟩ := guardO h
   refine AOps_q 31 _ rfl rfl rfl (QOp_indexAddrA_ptr _ _ _ _ _ _ _ _ _ _ rfl Try.underlying27 Try.sizeOf5 hc9.1 hc9.2 rfl rfl rfl rfl) ?_
   refine AOps_store1 _ _ _ _ _ _ (colD (p1.set r7.1.toNat (toByte r8.1))) _ rfl rfl rfl rfl rfl rfl rfl Try.sizeOf5 (by rw [colD_length]; omega) (colD_setE p1 r7.1.toNat (toByte r8.1)) ?_
   refine AOps_nil ?_
   cases h
   exact Weak_keep 1 hm [3, 4] [1, 2] _ _ rfl rfl rfl
  refine ACode_skip ?_
  cases h
  exact Weak_keep 1 hm [3, 4] [1, 2] _ _ rfl rfl rfl
 refine kR ?_
 refine AOps_q 32 _ rfl rfl rfl (QOp_loadN_ptr _ _ _ _ _ _ _ rfl Try.isAgg29 Try.sizeOf29 rfl rfl (colD_all _) (colD_length _)) ?_
 refine AOps_store _ _ _ _ _ _ (colD _) _ _ rfl rfl rfl rfl rfl rfl rfl (colD_one _) (by rw [colD_length]; exact Try.sizeOf29) (by rw [colD_length, colD_length]; decide) (colD_whole _ _) ?_
 refine AOps_nil ?_
 refine ACode_ret ?_
 cases h
 exact ⟨_, _, fun r a w h => ⟨r, h⟩, _, _, [], _, (.cons (ResV_agg _ _ _ _ _ _ Try.isAgg29 Try.sizeOf29 rfl rfl (colD_take _) (colD_length _)) .nil), rfl, rfl, rfl, rfl, rfl⟩

-- loop.example/g01362/spec.l05Draw
def spec_l05Draw (k : Nat) (p0 : List UInt8) : Option (Col × List Int) :=
 (spec_l01From k p0).bind fun r1 => (spec_l05With k r1).bind fun r2 => (spec_l01Bad r2.2.2 r2.1).bind fun r3 => some (r3.1, r2.2.1)
set_option maxRecDepth 100000 in
theorem spec_l05Draw_ac (k : Nat) (p0 : List UInt8) (r : Col × List Int) (h : spec_l05Draw k p0 = some r) : AC Try.prog 60 [.d (.sl none (bysD p0))] [] (fun res H' => res = [.d (.agg (colD r.1)), .d (.sl none (intsD r.2))] ∧ H' = []) := by
 refine AC_of_body true Try.func60 rfl Try.ntmps60 (rvs := [.cell 2 29, .tmp 3]) rfl rfl (fun G hG => ?_)
 have hm : G.H.length = 0 := by rw [hG]; rfl
 have hz : zeroG G.H = true := by rw [hG]; rfl
 unfold spec_l05Draw at h
 refine kR ?_
 refine AOps_alloc 2 _ _ (colD Col.zero) (zero_of Try.typeInfo29 rfl) (by rfl) rfl rfl rfl rfl ?_
 refine kN 1 rfl ?_
 refine kR ?_
 refine kM 1 rfl ?_
 obtain ⟨r1, hr1, h⟩ := bindO h
 refine kC [] 8 (.ptr 1 0) [.box (colD Col.zero), .box (srcD r1)] rfl Try.call33 rfl rfl (spec_l01From_ac k p0 _ hr1) rfl ?_
 refine kN 1 rfl ?_
 refine kR ?_
 refine kM 1 rfl ?_
 obtain ⟨r2, hr2, h⟩ := bindO h
 refine kC [1] 11 (.tup [.d (.agg (colD r2.1)), .d (.sl none (intsD r2.2.1))]) [.box (colD Col.zero), .box (srcD r2.2.2)] rfl Try.call106 rfl rfl (spec_l05With_ac k r1 _ hr2) rfl ?_
 refine kM 3 rfl ?_
 refine AOps_alloc 5 _ _ (colD Col.zero) (zero_of Try.typeInfo29 rfl) (by rfl) rfl rfl rfl rfl ?_
 refine AOps_store _ _ _ _ _ _ (colD _) _ _ rfl rfl rfl rfl rfl rfl rfl (colD_one _) (by rw [colD_length]; exact Try.sizeOf29) (by rw [colD_length, colD_length]; decide) (colD_whole _ _) ?_
 refine kN 1 rfl ?_
 refine kR ?_
 refine kM 1 rfl ?_
 refine AOps_q 15 _ rfl rfl rfl (QOp_loadN_ptr _ _ _ _ _ _ _ rfl Try.isAgg29 Try.sizeOf29 rfl rfl (colD_all _) (colD_length _)) ?_
 obtain ⟨r3, hr3, h⟩ := bindO h
 refine kC [1] 16 (.d (.agg (colD r3.1))) [.box (colD Col.zero), .box (srcD r3.2), .box (colD r2.1)] rfl Try.call107 rfl rfl (spec_l01Bad_ac r2.2.2 r2.1 _ hr3) rfl ?_
 refine kM 1 rfl ?_
 refine AOps_store _ _ _ _ _ _ (colD _) _ _ rfl rfl rfl rfl rfl rfl rfl (colD_one _) (by rw [colD_length]; exact Try.sizeOf29) (by rw [colD_length, colD_length]; decide) (colD_whole _ _) ?_
 refine kN 1 rfl ?_
 refine ACode_ret ?_
 cases h
 exact ⟨_, _, fun r a w h => ⟨r, h⟩, _, _, [], _, (.cons (ResV_agg _ _ _ _ _ _ Try.isAgg29 Try.sizeOf29 rfl rfl (colD_take _) (colD_length _)) (.cons (ResV_tmp _ _ rfl) .nil)), rfl, rfl, rfl, rfl, rfl⟩

-- loop.example/g01362/spec.DrawFreeChanges
def spec_DrawFreeChanges (k : Nat) (p0 : List UInt8) : Option (Col × List Int) :=
 (spec_l05Draw k p0).bind fun r1 => some (r1.1, r1.2)
set_option maxRecDepth 100000 in
theorem spec_DrawFreeChanges_ac (k : Nat) (p0 : List UInt8) (r : Col × List Int) (h : spec_DrawFreeChanges k p0 = some r) : AC Try.prog 15 [.d (.sl none (bysD p0))] [] (fun res H' => res = [.d (.agg (colD r.1)), .d (.sl none (intsD r.2))] ∧ H' = []) := by
 refine AC_of_body true Try.func15 rfl Try.ntmps15 (rvs := [.cell 2 29, .tmp 3]) rfl rfl (fun G hG => ?_)
 have hm : G.H.length = 0 := by rw [hG]; rfl
 have hz : zeroG G.H = true := by rw [hG]; rfl
 unfold spec_DrawFreeChanges at h
 refine kR ?_
 refine AOps_alloc 2 _ _ (colD Col.zero) (zero_of Try.typeInfo29 rfl) (by rfl) rfl rfl rfl rfl ?_
 refine kN 1 rfl ?_
 refine kR ?_
 refine kM 1 rfl ?_
 obtain ⟨r1, hr1, h⟩ := bindO h
 refine kC [] 8 (.tup [.d (.agg (colD r1.1)), .d (.sl none (intsD r1.2))]) [.box (colD Col.zero)] rfl Try.call60 rfl rfl (spec_l05Draw_ac k p0 _ hr1) rfl ?_
 refine kM 3 rfl ?_
 refine AOps_alloc 4 _ _ (colD Col.zero) (zero_of Try.typeInfo29 rfl) (by rfl) rfl rfl rfl rfl ?_
 refine AOps_store _ _ _ _ _ _ (colD _) _ _ rfl rfl rfl rfl rfl rfl rfl (colD_one _) (by rw [colD_length]; exact Try.sizeOf29) (by rw [colD_length, colD_length]; decide) (colD_whole _ _) ?_
 refine kN 1 rfl ?_
 refine kR ?_
 refine AOps_q 11 _ rfl rfl rfl (QOp_loadN_ptr _ _ _ _ _ _ _ rfl Try.isAgg29 Try.sizeOf29 rfl rfl (colD_all _) (colD_length _)) ?_
 refine kM 1 rfl ?_
 refine AOps_store _ _ _ _ _ _ (colD _) _ _ rfl rfl rfl rfl rfl rfl rfl (colD_one _) (by rw [colD_length]; exact Try.sizeOf29) (by rw [colD_length, colD_length]; decide) (colD_whole _ _) ?_
 refine kN 1 rfl ?_
 refine ACode_ret ?_
 cases h
 exact ⟨_, _, fun r a w h => ⟨r, h⟩, _, _, [], _, (.cons (ResV_agg _ _ _ _ _ _ Try.isAgg29 Try.sizeOf29 rfl rfl (colD_take _) (colD_length _)) (.cons (ResV_tmp _ _ rfl) .nil)), rfl, rfl, rfl, rfl, rfl⟩

-- loop.example/g01362/impl.FreeChanges$1
def impl_FreeChanges_c1 (p0 : Int) (p1 : Col) (p2 : Int) (p3 : Int) (p4 : Int) : Option (Bool) :=
 ((impl_Colouring_joins p1 p2 p0 p3).bind fun r1 => (if r1 then (impl_Colouring_joins p1 p4 p0 p3).bind fun r3 => some r3 else some false) : Option (Bool)).bind fun s4 => some s4
set_option maxRecDepth 100000 in
theorem impl_FreeChanges_c1_ac (p0 : Int) (p1 : Col) (p2 : Int) (p3 : Int) (p4 : Int) (r : Bool) (h : impl_FreeChanges_c1 p0 p1 p2 p3 p4 = some r) : AC Try.prog 61 [iV p0, .d (.pv (colD p1) 0), .d (.pv ([iD p2]) 0), .d (.pv ([iD p3]) 0), .d (.pv ([iD p4]) 0)] [] (fun res H' => res = [bV r] ∧ H' = []) := by
 refine AC_of_body true Try.func61 rfl Try.ntmps61 (rvs := [.tmp 6]) rfl rfl (fun G hG => ?_)
 have hm : G.H.length = 0 := by rw [hG]; rfl
 have hz : zeroG G.H = true := by rw [hG]; rfl
 unfold impl_FreeChanges_c1 at h
 refine kR ?_
 refine kN 1 rfl ?_
 refine kB (fun s4 => [(6, bV s4)]) (fun s4 => []) h (fun s4 h => ?_) (fun s4 h => ?_)
 ·refine (ACode_region ?_)
  refine AOps_q 7 _ rfl rfl rfl (QOp_load_pv _ _ _ _ _ rfl Try.isAgg2 rfl rfl) ?_
  refine kM 1 rfl ?_
  refine AOps_q 9 _ rfl rfl rfl (QOp_load_pv _ _ _ _ _ rfl Try.isAgg2 rfl rfl) ?_
  obtain ⟨r1, hr1, h⟩ := bindO h
  refine kC [] 10 (bV r1) [] rfl Try.call62 rfl rfl (impl_Colouring_joins_ac p1 p2 p0 p3 _ hr1) rfl ?_
  refine kM 1 rfl ?_
  refine AOps_case 11 _ rfl (fun hb2 => ?_) (fun hb2 => ?_)
  ·have h := iteT hb2 h
   refine AOps_q 12 _ rfl rfl rfl (QOp_load_pv _ _ _ _ _ rfl Try.isAgg2 rfl rfl) ?_
   refine kM 1 rfl ?_
   refine AOps_q 14 _ rfl rfl rfl (QOp_load_pv _ _ _ _ _ rfl Try.isAgg2 rfl rfl) ?_
   obtain ⟨r3, hr3, h⟩ := bindO h
   refine kC [] 15 (bV r3) [] rfl Try.call62 rfl rfl (impl_Colouring_joins_ac p1 p4 p0 p3 _ hr3) rfl ?_
   refine kN 2 rfl ?_
   cases h
   exact Weak_keep 0 hm [6] [] _ _ rfl rfl rfl
  have h := iteF hb2 h
  refine AOps_skip 12 rfl rfl rfl ?_
  refine AOps_skip 13 rfl rfl rfl ?_
  refine AOps_skip 14 rfl rfl rfl ?_
  refine AOps_skip 15 rfl rfl rfl ?_
  refine kN 2 rfl ?_
  cases h
  exact Weak_keep 0 hm [6] [] _ _ rfl rfl rfl
 refine ACode_ret ?_
 cases h
 exact ⟨_, _, fun r a w h => ⟨r, h⟩, _, _, [], _, (.cons (ResV_tmp _ _ rfl) .nil), rfl, rfl, rfl, rfl, rfl⟩

-- loop.example/g01362/impl.FreeChanges
def impl_FreeChanges_l2 (k : Nat) (p0 : Col) (p1 : List Int) (x3 : Int) (x7 : Int) : Nat → Int → (List (List Int)) → Option (List (List Int))
 | 0, _, _ => none
 | k2 + 1, x9, x10 => (if decide (x9 < p0.k) then ((impl_Colouring_that k p0 (fun a0 => impl_FreeChanges_c1 a0 p0 x3 x9 x7)).bind fun r12 => ((impl_Colouring_at p0 x3 x7).bind fun r13 => (if !decide (r13 = x9) then (if 0 ≤ x9 ∧ x9 < (p1.length : Int) then (impl_Colouring_hasClique k p0 x9 (w64 ((p1.getD x9.toNat 0) - 2)) r12).bind fun r16 => some (!r16) else none) else some false) : Option (Bool)).bind fun s17 => (if s17 then (if x10.length + ([[x3, x7, x9]]).length ≤ 1099511627776 then some (x10 ++ ([[x3, x7, x9]])) else none) else some x10) : Option (List (List Int))).bind fun s20 => impl_FreeChanges_l2 k p0 p1 x3 x7 k2 (w64 (x9 + 1)) s20 else some x10)
def impl_FreeChanges_l1 (k : Nat) (p0 : Col) (p1 : List Int) (x3 : Int) : Nat → (List (List Int)) → Int → Option (List (List Int))
 | 0, _, _ => none
 | k1 + 1, x6, x7 => (if decide (x7 < p0.p) then (impl_FreeChanges_l2 k p0 p1 x3 x7 k 0 x6 : Option (List (List Int))).bind fun s21 => impl_FreeChanges_l1 k p0 p1 x3 k1 s21 (w64 (x7 + 1)) else some x6)
def impl_FreeChanges_l0 (k : Nat) (p0 : Col) (p1 : List Int) : Nat → Int → (List (List Int)) → Option (List (List Int))
 | 0, _, _ => none
 | k0 + 1, x3, x4 => (if decide (x3 < p0.p) then (impl_FreeChanges_l1 k p0 p1 x3 k x4 (w64 (x3 + 1)) : Option (List (List Int))).bind fun s22 => impl_FreeChanges_l0 k p0 p1 k0 (w64 (x3 + 1)) s22 else some x4)
def impl_FreeChanges (k : Nat) (p0 : Col) (p1 : List Int) : Option (Option (List (List Int)) × Int) :=
 (impl_Colouring_extendingCode k p0 p1 (some (impl_always)) 17).bind fun r1 => (if !decide (r1 = 0) then some (none, r1) else (impl_FreeChanges_l0 k p0 p1 k 0 ([] : List (List Int)) : Option (List (List Int))).bind fun s23 => some (some s23, 0))
set_option maxRecDepth 100000 in
theorem impl_FreeChanges_ac (k : Nat) (p0 : Col) (p1 : List Int) (r : Option (List (List Int)) × Int) (h : impl_FreeChanges k p0 p1 = some r) : AC Try.prog 16 [.d (.agg (colD p0)), .d (.sl none (intsD p1))] [] (fun res H' => res = [ownA 0 (r.1.map rowsD), iV r.2] ∧ H' = [] ++ ownH (r.1.map rowsD)) := by
 refine AC_of_body false Try.func16 rfl Try.ntmps16 (rvs := [.tmp 4, .tmp 5]) rfl rfl (fun G hG => ?_)
 have hm : G.H.length = 0 := by rw [hG]; rfl
 have hz : zeroG G.H = true := by rw [hG]; rfl
 unfold impl_FreeChanges at h
 refine kR ?_
 refine AOps_boxI 2 _ _ (.agg (colD p0)) (colD p0) rfl (colD_one _) rfl rfl rfl rfl rfl ?_
 refine kN 2 rfl ?_
 refine ACode_seq ?_
 refine kR ?_
 refine kM 1 rfl ?_
 obtain ⟨r1, hr1, h⟩ := bindO h
 refine kC [] 13 (iV r1) [] rfl Try.call53 rfl rfl (impl_Colouring_extendingCode_ac k p0 p1 (some (impl_always)) 17 45 ([]) Try.call45 (fun r h => by cases h; exact impl_always_ac) _ hr1) rfl ?_
 refine kN 1 rfl ?_
 refine kR ?_
 refine kM 1 rfl ?_
 refine AOps_q 15 _ rfl rfl rfl (QOp_neq _ _ _ _ _ _ _ rfl rfl rfl) ?_
 refine AOps_nil ?_
 refine kI h rfl (fun h _ => ?_) (fun h _ => ?_)
 ·refine kR ?_
  refine kN 3 rfl ?_
  refine ACode_ret ?_
  cases h
  exact ⟨_, _, fun r a w h => ⟨r, h⟩, _, _, [], _, (.cons (ResV_tmp _ _ rfl) (.cons (ResV_tmp _ _ rfl) .nil)), rfl, rfl, rfl, rfl, rfl⟩
 refine ACode_skip ?_
 refine kR ?_
 refine AOps_buildSlice 17 _ _ _ [] (rowsD ([] : List (List Int))) _ rfl rfl rfl rfl rfl (by decide) Try.underlying41 Try.sizeOf24 (zero_of Try.typeInfo24 rfl) rfl rfl (rowsD_one _) ?_
 refine kN 1 rfl ?_
 refine kB (fun s23 => [(7, .vec 0 0)]) (fun s23 => [.vec 0 (rowsD s23)]) h (fun s23 h => ?_) (fun s23 h => ?_)
 ·refine kR ?_
  refine AOps_q 18 _ rfl rfl rfl (QOp_fieldAddr_pv _ _ _ _ _ 0 _ _ rfl Try.underlying29 rfl _ Try.sizeOf2 rfl rfl) ?_
  refine AOps_q 19 _ rfl rfl rfl (QOp_load_pv _ _ _ _ _ rfl Try.isAgg2 rfl rfl) ?_
  refine kN 1 rfl ?_
  refine ACode_block ?_
  refine ACode_loopW (fun k0 E H => ∃ (x3 : Int) (x4 : List (List Int)), E = [(1, .d (.sl none (intsD p1))), (2, .d (.pv (colD p0) 0)), (7, .vec 0 0), (19, iV p0.p), (20, iV x3)] ∧ H = [.vec 0 (rowsD x4)] ∧ impl_FreeChanges_l0 k p0 p1 k0 x3 x4 = some s23) k _ _ (Weak_keep 0 hm [1, 2, 7, 19, 20] [0] _ _ rfl rfl rfl) ⟨_, _, rfl, rfl, h⟩ ?_
  clear h
  rintro k0 E H ⟨x3, x4, rfl, rfl, h⟩
  cases k0 with
  | zero => cases (show (none : Option (List (List Int))) = some _ from h)
  | succ k0 =>
   rw [impl_FreeChanges_l0] at h
   refine kR ?_
   refine AOps_q 21 _ rfl rfl rfl (QOp_lss _ _ _ _ _ _ _ rfl rfl rfl) ?_
   refine AOps_nil ?_
   refine ACode_seq ?_
   refine kI h rfl (fun h _ => ?_) (fun h _ => ?_)
   ·refine ACode_skip ?_
    refine kB (fun s22 => [(1, .d (.sl none (intsD p1))), (2, .d (.pv (colD p0) 0)), (7, .vec 0 0), (19, iV p0.p), (20, iV x3)]) (fun s22 => [.vec 0 (rowsD s22)]) h (fun s22 h => ?_) (fun s22 h => ?_)
    ·refine ACode_block ?_
     refine kR ?_
     refine kM 1 rfl ?_
     refine AOps_alloc 8 _ _ ([iD 0]) (zero_of Try.typeInfo2 rfl) (by rfl) rfl rfl rfl rfl ?_
     refine AOps_store1 _ _ _ _ _ _ _ _ rfl rfl rfl rfl rfl rfl rfl Try.sizeOf2 (Nat.le_of_ble_eq_true rfl) rfl ?_
     refine AOps_nil ?_
     refine kR ?_
     refine AOps_q 23 _ rfl rfl rfl (QOp_load_ptr _ _ _ _ _ _ rfl Try.isAgg2 rfl rfl rfl) ?_
     refine AOps_q 24 _ rfl rfl rfl (QOp_add _ _ _ _ _ _ _ rfl rfl rfl) ?_
     refine AOps_alloc 9 _ _ ([iD 0]) (zero_of Try.typeInfo2 rfl) (by rfl) rfl rfl rfl rfl ?_
     refine AOps_store1 _ _ _ _ _ _ _ _ rfl rfl rfl rfl rfl rfl rfl Try.sizeOf2 (Nat.le_of_ble_eq_true rfl) rfl ?_
     refine AOps_nil ?_
     refine ACode_block ?_
     refine ACode_loopW (fun k1 E H => ∃ (x6 : List (List Int)) (x7 : Int), E = [(1, .d (.sl none (intsD p1))), (2, .d (.pv (colD p0) 0)), (7, .vec 0 0), (8, .ptr 1 0), (9, .ptr 2 0), (19, iV p0.p), (20, iV x3)] ∧ H = [.vec 0 (rowsD x6), .box [iD x3], .box [iD x7]] ∧ impl_FreeChanges_l1 k p0 p1 x3 k1 x6 x7 = some s22) k _ _ (Weak_keep 0 hm [1, 2, 7, 8, 9, 19, 20] [0, 1, 2] _ _ rfl rfl rfl) ⟨_, _, rfl, rfl, h⟩ ?_
     clear h
     rintro k1 E H ⟨x6, x7, rfl, rfl, h⟩
     cases k1 with
     | zero => cases (show (none : Option (List (List Int))) = some _ from h)
     | succ k1 =>
      rw [impl_FreeChanges_l1] at h
      refine ACode_seq ?_
      refine kR ?_
      refine AOps_q 25 _ rfl rfl rfl (QOp_load_ptr _ _ _ _ _ _ rfl Try.isAgg2 rfl rfl rfl) ?_
      refine AOps_q 26 _ rfl rfl rfl (QOp_fieldAddr_pv _ _ _ _ _ 0 _ _ rfl Try.underlying29 rfl _ Try.sizeOf2 rfl rfl) ?_
      refine AOps_q 27 _ rfl rfl rfl (QOp_load_pv _ _ _ _ _ rfl Try.isAgg2 rfl rfl) ?_
      refine AOps_q 28 _ rfl rfl rfl (QOp_lss _ _ _ _ _ _ _ rfl rfl rfl) ?_
      refine AOps_nil ?_
      refine kI h rfl (fun h _ => ?_) (fun h _ => ?_)
      ·refine ACode_skip ?_
       refine kB (fun s21 => [(1, .d (.sl none (intsD p1))), (2, .d (.pv (colD p0) 0)), (7, .vec 0 0), (8, .ptr 1 0), (9, .ptr 2 0), (19, iV p0.p), (20, iV x3)]) (fun s21 => [.vec 0 (rowsD s21), .box [iD x3], .box [iD x7]]) h (fun s21 h => ?_) (fun s21 h => ?_)
       ·refine ACode_block ?_
        refine kR ?_
        refine AOps_q 31 _ rfl rfl rfl (QOp_fieldAddr_pv _ _ _ _ _ 1 _ _ rfl Try.underlying29 rfl _ Try.sizeOf2 rfl rfl) ?_
        refine AOps_q 32 _ rfl rfl rfl (QOp_load_pv _ _ _ _ _ rfl Try.isAgg2 rfl rfl) ?_
        refine kN 1 rfl ?_
        refine ACode_block ?_
        refine ACode_loopW (fun k2 E H => ∃ (x9 : Int) (x10 : List (List Int)), E = [(1, .d (.sl none (intsD p1))), (2, .d (.pv (colD p0) 0)), (7, .vec 0 0), (8, .ptr 1 0), (9, .ptr 2 0), (19, iV p0.p), (20, iV x3), (32, iV p0.k), (33, iV x9)] ∧ H = [.vec 0 (rowsD x10), .box [iD x3], .box [iD x7]] ∧ impl_FreeChanges_l2 k p0 p1 x3 x7 k2 x9 x10 = some s21) k _ _ (Weak_keep 0 hm [1, 2, 7, 8, 9, 19, 20, 32, 33] [0, 1, 2] _ _ rfl rfl rfl) ⟨_, _, rfl, rfl, h⟩ ?_
        clear h
        rintro k2 E H ⟨x9, x10, rfl, rfl, h⟩
        cases k2 with
        | zero => cases (show (none : Option (List (List Int))) = some _ from h)
        | succ k2 =>
         rw [impl_FreeChanges_l2] at h
         refine kR ?_
         refine AOps_q 34 _ rfl rfl rfl (QOp_lss _ _ _ _ _ _ _ rfl rfl rfl) ?_
         refine AOps_nil ?_
         refine ACode_seq ?_
         refine kI h rfl (fun h _ => ?_) (fun h _ => ?_)
         ·refine ACode_skip ?_
          refine kB (fun s20 => [(1, .d (.sl none (intsD p1))), (2, .d (.pv (colD p0) 0)), (7, .vec 0 0), (8, .ptr 1 0), (9, .ptr 2 0), (19, iV p0.p), (20, iV x3), (32, iV p0.k), (33, iV x9)]) (fun s20 => [.vec 0 (rowsD s20), .box [iD x3], .box [iD x7]]) h (fun s20 h => ?_) (fun s20 h => ?_)
          ·refine ACode_block ?_
           refine kR ?_
           refine kM 1 rfl ?_
           refine AOps_alloc 10 _ _ ([iD 0]) (zero_of Try.typeInfo2 rfl) (by rfl) rfl rfl rfl rfl ?_
           refine AOps_store1 _ _ _ _ _ _ _ _ rfl rfl rfl rfl rfl rfl rfl Try.sizeOf2 (Nat.le_of_ble_eq_true rfl) rfl ?_
           refine AOps_nil ?_
           refine kR ?_
           refine AOps_q 36 _ rfl rfl rfl (QOp_makeFunc _ _ _ rfl rfl) ?_
           obtain ⟨r12, hr12, h⟩ := bindO h
           refine AOps_callL [] 37 _ _ _ _ _ _ _ _ _ _ rfl rfl rfl rfl rfl rfl rfl Try.call51 rfl (nodupB_sound _ rfl) rfl rfl rfl (impl_Colouring_that_ac k p0 (fun a0 => impl_FreeChanges_c1 a0 p0 x3 x9 x7) 61 ([.pv (colD p0) 0, .pv ([iD x3]) 0, .pv ([iD x9]) 0, .pv ([iD x7]) 0]) Try.call61 (fun a0 r h => impl_FreeChanges_c1_ac a0 p0 x3 x9 x7 r h) _ hr12) ?_
           rintro _ _ ⟨rfl, rfl⟩
           refine ⟨(allc (intsD_flat _) (fun _ h => nomatch h)), (allc (trivial) (fun _ h => nomatch h)), AOps_as 37 (v' := .vec 4 0) (H' := [.vec 0 (rowsD x10), .box [iD x3], .box [iD x7], .box [iD x9], .vec 0 (intsD r12)]) rfl rfl ?_⟩
           refine kN 1 rfl ?_
           refine kB (fun s17 => [(1, .d (.sl none (intsD p1))), (2, .d (.pv (colD p0) 0)), (7, .vec 0 0), (8, .ptr 1 0), (9, .ptr 2 0), (10, .ptr 3 0), (19, iV p0.p), (20, iV x3), (32, iV p0.k), (33, iV x9), (53, bV s17)]) (fun s17 => [.vec 0 (rowsD x10), .box [iD x3], .box [iD x7], .box [iD x9]]) h (fun s17 h => ?_) (fun s17 h => ?_)
           ·refine (ACode_quiet mixed (by kernel_rfl) ?_)
            refine AQ_q 38 _ rfl rfl rfl (QOp_load_ptr _ _ _ _ _ _ rfl Try.isAgg2 rfl rfl rfl) ?_
            refine AQ_q 39 _ rfl rfl rfl (QOp_load_ptr _ _ _ _ _ _ rfl Try.isAgg2 rfl rfl rfl) ?_
            obtain ⟨r13, hr13, h⟩ := bindO h
            refine AQ_call 40 _ _ _ _ _ _ _ _ _ rfl rfl rfl rfl rfl rfl rfl Try.call63 rfl rfl rfl (impl_Colouring_at_ac p0 x3 x7 _ hr13) ?_
            refine AQ_q 41 _ rfl rfl rfl (QOp_load_ptr _ _ _ _ _ _ rfl Try.isAgg2 rfl rfl rfl) ?_
            refine AQ_q 42 _ rfl rfl rfl (QOp_neq _ _ _ _ _ _ _ rfl rfl rfl) ?_
            refine kQ 1 rfl ?_
            refine AQ_case 43 _ rfl (fun hb14 => ?_) (fun hb14 => ?_)
            ·have h := iteT hb14 h
             refine AQ_q 44 _ rfl rfl rfl (QOp_load_ptr _ _ _ _ _ _ rfl Try.isAgg2 rfl rfl rfl) ?_
             refine kQ 1 rfl ?_
             refine AQ_q 46 _ rfl rfl rfl (QOp_load_ptr _ _ _ _ _ _ rfl Try.isAgg2 rfl rfl rfl) ?_
             obtain ⟨hc15, h⟩ := guardO h
             refine AQ_q 47 _ rfl rfl rfl (QOp_indexAddr_sl _ _ _ _ _ _ _ _ rfl Try.underlying24 Try.sizeOf2 hc15.1 (by rw [intsD_length]; exact hc15.2) rfl rfl) ?_
             refine AQ_q 48 _ rfl rfl rfl (QOp_load_pv _ _ _ _ _ rfl Try.isAgg2 rfl (intsD_get _ _ 0 (by omega))) ?_
             refine AQ_q 49 _ rfl rfl rfl (QOp_sub _ _ _ _ _ _ _ rfl rfl rfl) ?_
             refine kQ 1 rfl ?_
             obtain ⟨r16, hr16, h⟩ := bindO h
             refine AQ_call 51 _ _ _ _ _ _ _ _ _ rfl rfl rfl rfl rfl rfl rfl Try.call64 rfl rfl rfl (impl_Colouring_hasClique_ac k p0 x9 (w64 ((p1.getD x9.toNat 0) - 2)) r12 _ hr16) ?_
             refine AQ_q 52 _ rfl rfl rfl (QOp_not _ _ _ rfl rfl) ?_
             refine kQ 1 rfl ?_
             refine AQ_nil ?_
             cases h
             exact Weak_keep 0 hm [1, 2, 7, 8, 9, 10, 19, 20, 32, 33, 53] [0, 1, 2, 3] _ _ rfl rfl rfl
            have h := iteF hb14 h
            refine AQ_skip 44 rfl rfl rfl ?_
            refine AQ_skip 45 rfl rfl rfl ?_
            refine AQ_skip 46 rfl rfl rfl ?_
            refine AQ_skip 47 rfl rfl rfl ?_
            refine AQ_skip 48 rfl rfl rfl ?_
            refine AQ_skip 49 rfl rfl rfl ?_
            refine AQ_skip 50 rfl rfl rfl ?_
            refine AQ_skip 51 rfl rfl rfl ?_
            refine AQ_skip 52 rfl rfl rfl ?_
            refine kQ 1 rfl ?_
            refine AQ_nil ?_
            cases h
            exact Weak_keep 0 hm [1, 2, 7, 8, 9, 10, 19, 20, 32, 33, 53] [0, 1, 2, 3] _ _ rfl rfl rfl
           refine kI h rfl (fun h _ => ?_) (fun h _ => ?_)
           ·refine (ACode_region ?_)
            refine kM 1 rfl ?_
            refine AOps_q 55 _ rfl rfl rfl (QOp_load_ptr _ _ _ _ _ _ rfl Try.isAgg2 rfl rfl rfl) ?_
            refine AOps_q 56 _ rfl rfl rfl (QOp_load_ptr _ _ _ _ _ _ rfl Try.isAgg2 rfl rfl rfl) ?_
            refine AOps_q 57 _ rfl rfl rfl (QOp_load_ptr _ _ _ _ _ _ rfl Try.isAgg2 rfl rfl rfl) ?_
            refine AOps_buildSlice 58 _ _ _ [_, _, _] (intsD ([x3, x7, x9])) _ rfl rfl rfl rfl rfl (by decide) Try.underlying24 Try.sizeOf2 (zero_of Try.typeInfo2 rfl) rfl rfl (intsD_one _) ?_
            refine AOps_freeze 58 4 0 _ rfl rfl ?_
            refine AOps_buildSlice 59 _ _ _ [_] (rowsD ([[x3, x7, x9]])) _ rfl rfl rfl rfl rfl (by decide) Try.underlying41 Try.sizeOf24 (zero_of Try.typeInfo24 rfl) rfl rfl (rowsD_one _) ?_
            obtain ⟨hc19, h⟩ := guardO h
            refine AOps_append 60 _ _ _ _ _ _ _ _ _ _ _ _ rfl rfl rfl rfl rfl rfl rfl Try.underlying41 Try.type24 rfl rfl rfl (by decide) rfl rfl rfl rfl (rowsD_one _) (by rw [rowsD_length, rowsD_length]; exact hc19) ?_
            rw [rowsD_app]
            refine kN 1 rfl ?_
            cases h
            exact Weak_trans (Weak_keep 0 hm [1, 2, 7, 8, 9, 19, 20, 32, 33] [0, 1, 2] _ _ rfl rfl rfl) (Weak_reset 0 hm hz [1, 2, 7, 8, 9, 19, 20, 32, 33] _ _ rfl rfl)
           refine ACode_skip ?_
           cases h
           exact Weak_keep 0 hm [1, 2, 7, 8, 9, 19, 20, 32, 33] [0, 1, 2] _ _ rfl rfl rfl
          refine (ACode_region ?_)
          refine AOps_q 61 _ rfl rfl rfl (QOp_add _ _ _ _ _ _ _ rfl rfl rfl) ?_
          refine kN 1 rfl ?_
          exact ⟨k2, _, _, Nat.lt_succ_self _, Weak_keep 0 hm [1, 2, 7, 8, 9, 19, 20, 32, 33] [0, 1, 2] _ _ rfl rfl rfl, _, _, rfl, rfl, h⟩
         refine ACode_exit ?_
         cases h
         exact Weak_keep 0 hm [1, 2, 7, 8, 9, 19, 20] [0, 1, 2] _ _ rfl rfl rfl
       refine ACode_seq ?_
       refine kR ?_
       refine AOps_q 62 _ rfl rfl rfl (QOp_load_ptr _ _ _ _ _ _ rfl Try.isAgg2 rfl rfl rfl) ?_
       refine AOps_nil ?_
       refine (ACode_region ?_)
       refine AOps_alloc 9 _ _ ([iD 0]) (zero_of Try.typeInfo2 rfl) (by rfl) rfl rfl rfl rfl ?_
       refine AOps_store1 _ _ _ _ _ _ _ _ rfl rfl rfl rfl rfl rfl rfl Try.sizeOf2 (Nat.le_of_ble_eq_true rfl) rfl ?_
       refine AOps_nil ?_
       refine (ACode_region ?_)
       refine AOps_q 29 _ rfl rfl rfl (QOp_load_ptr _ _ _ _ _ _ rfl Try.isAgg2 rfl rfl rfl) ?_
       refine AOps_q 30 _ rfl rfl rfl (QOp_add _ _ _ _ _ _ _ rfl rfl rfl) ?_
       refine AOps_store1 _ _ _ _ _ _ _ _ rfl rfl rfl rfl rfl rfl rfl Try.sizeOf2 (Nat.le_of_ble_eq_true rfl) rfl ?_
       refine AOps_nil ?_
       exact ⟨k1, _, _, Nat.lt_succ_self _, Weak_keep 0 hm [1, 2, 7, 8, 9, 19, 20] [0, 1, 3] _ _ rfl rfl rfl, _, _, rfl, rfl, h⟩
      refine ACode_exit ?_
      cases h
      exact Weak_keep 0 hm [1, 2, 7, 19, 20] [0] _ _ rfl rfl rfl
    refine (ACode_region ?_)
    refine AOps_q 63 _ rfl rfl rfl (QOp_add _ _ _ _ _ _ _ rfl rfl rfl) ?_
    refine kN 1 rfl ?_
    exact ⟨k0, _, _, Nat.lt_succ_self _, Weak_keep 0 hm [1, 2, 7, 19, 20] [0] _ _ rfl rfl rfl, _, _, rfl, rfl, h⟩
   refine ACode_exit ?_
   cases h
   exact Weak_keep 0 hm [7] [0] _ _ rfl rfl rfl
 refine kR ?_
 refine kN 3 rfl ?_
 refine ACode_ret ?_
 cases h
 exact ⟨_, _, Weak_reset 0 hm hz [4, 5] _ _ rfl rfl, _, _, [0], _, (.cons (ResV_tmp _ _ rfl) (.cons (ResV_tmp _ _ rfl) .nil)), rfl, rfl, rfl, rfl, rfl⟩

-- loop.example/g01362/spec.l01Is
def spec_l01Is_l0 (k : Nat) (p0 : Col) : Nat → Int → Option (Sum (Unit) (Bool))
 | 0, _ => none
 | k0 + 1, x7 => (if decide (x7 < 136) then (((if decide (x7 < w64 ((w64 (p0.p * (w64 (p0.p - 1)))).tdiv 2)) then (if 0 ≤ x7 ∧ x7 < 136 then (if decide (p0.k ≤ ((p0.get x7.toNat).toNat : Int)) then some true else (if decide (w64 ((w64 (p0.p * (w64 (p0.p - 1)))).tdiv 2) ≤ x7) then (if 0 ≤ x7 ∧ x7 < 136 then some (!decide (((p0.get x7.toNat).toNat : Int) = 0)) else none) else some false)) else none) else (if decide (w64 ((w64 (p0.p * (w64 (p0.p - 1)))).tdiv 2) ≤ x7) then (if 0 ≤ x7 ∧ x7 < 136 then some (!decide (((p0.get x7.toNat).toNat : Int) = 0)) else none) else some false)) : Option (Bool)).bind fun s16 => (if s16 then (some (.inr false)).bind fun rr => some (.inr rr) else some (.inl ())) : Option (Sum (Unit) (Sum (Unit) (Bool)))).bind fun os18 => (match os18 with | .inl s18 => spec_l01Is_l0 k p0 k0 (w64 (x7 + 1)) | .inr rr => some rr) else some (.inl ()))
def spec_l01Is (k : Nat) (p0 : Col) : Option (Bool) :=
 (letO (if !(spec_l01In p0.p 1 17) then true else !(spec_l01In p0.k 1 4)) fun (s4 : Bool) => (if s4 then some (.inr false) else some (.inl ())) : Option (Sum (Unit) (Bool))).bind fun os6 => (match os6 with | .inl s6 => (spec_l01Is_l0 k p0 k 0 : Option (Sum (Unit) (Bool))).bind fun os19 => (match os19 with | .inl s19 => some true | .inr rr => some rr) | .inr rr => some rr)
set_option maxRecDepth 100000 in
theorem spec_l01Is_ac (k : Nat) (p0 : Col) (r : Bool) (h : spec_l01Is k p0 = some r) : AC Try.prog 81 [.d (.agg (colD p0))] [] (fun res H' => res = [bV r] ∧ H' = []) := by
 refine AC_of_body true Try.func81 rfl Try.ntmps81 (rvs := [.tmp 2]) rfl rfl (fun G hG => ?_)
 have hm : G.H.length = 0 := by rw [hG]; rfl
 have hz : zeroG G.H = true := by rw [hG]; rfl
 unfold spec_l01Is at h
 refine kR ?_
 refine AOps_boxI 1 _ _ (.agg (colD p0)) (colD p0) rfl (colD_one _) rfl rfl rfl rfl rfl ?_
 refine kN 1 rfl ?_
 refine kO (fun s6 => [(1, .d (.pv (colD p0) 0))]) (fun s6 => []) h (fun os6 h hks6 => ?_) (fun s6 h => ?_)
 ·refine kL (fun s4 => [(1, .d (.pv (colD p0) 0)), (14, bV s4)]) (fun s4 => []) h (fun s4 h => ?_) (fun s4 h => ?_)
  ·refine (ACode_region ?_)
   refine AOps_q 5 _ rfl rfl rfl (QOp_fieldAddr_pv _ _ _ _ _ 0 _ _ rfl Try.underlying29 rfl _ Try.sizeOf2 rfl rfl) ?_
   refine AOps_q 6 _ rfl rfl rfl (QOp_load_pv _ _ _ _ _ rfl Try.isAgg2 rfl rfl) ?_
   refine kC [] 7 (bV (spec_l01In p0.p 1 17)) [] rfl Try.call40 rfl rfl (spec_l01In_ac p0.p 1 17) rfl ?_
   refine AOps_q 8 _ rfl rfl rfl (QOp_not _ _ _ rfl rfl) ?_
   refine kM 1 rfl ?_
   refine AOps_case 9 _ rfl (fun hb2 => ?_) (fun hb2 => ?_)
   ·have h := iteT hb2 h
    refine AOps_skip 10 rfl rfl rfl ?_
    refine AOps_skip 11 rfl rfl rfl ?_
    refine AOps_skip 12 rfl rfl rfl ?_
    refine AOps_skip 13 rfl rfl rfl ?_
    refine kN 1 rfl ?_
    cases h
    exact Weak_keep 0 hm [1, 14] [] _ _ rfl rfl rfl
   have h := iteF hb2 h
   refine AOps_q 10 _ rfl rfl rfl (QOp_fieldAddr_pv _ _ _ _ _ 1 _ _ rfl Try.underlying29 rfl _ Try.sizeOf2 rfl rfl) ?_
   refine AOps_q 11 _ rfl rfl rfl (QOp_load_pv _ _ _ _ _ rfl Try.isAgg2 rfl rfl) ?_
   refine kC [] 12 (bV (spec_l01In p0.k 1 4)) [] rfl Try.call40 rfl rfl (spec_l01In_ac p0.k 1 4) rfl ?_
   refine AOps_q 13 _ rfl rfl rfl (QOp_not _ _ _ rfl rfl) ?_
   refine kN 1 rfl ?_
   cases h
   exact Weak_keep 0 hm [1, 14] [] _ _ rfl rfl rfl
  refine kI h rfl (fun h _ => ?_) (fun h _ => ?_)
  ·refine kR ?_
   refine kN 1 rfl ?_
   refine ACode_ret ?_
   cases h
   have h := hks6
   cases h
   exact ⟨_, _, fun r a w h => ⟨r, h⟩, _, _, [], _, (.cons (ResV_tmp _ _ rfl) .nil), rfl, rfl, rfl, rfl, rfl⟩
  refine ACode_skip ?_
  cases h
  exact ⟨_, rfl, Weak_keep 0 hm [1] [] _ _ rfl rfl rfl⟩
 refine kR ?_
 refine AOps_q 15 _ rfl rfl rfl (QOp_fieldAddr_pv _ _ _ _ _ 0 _ _ rfl Try.underlying29 rfl _ Try.sizeOf2 rfl rfl) ?_
 refine AOps_q 16 _ rfl rfl rfl (QOp_load_pv _ _ _ _ _ rfl Try.isAgg2 rfl rfl) ?_
 refine AOps_q 17 _ rfl rfl rfl (QOp_fieldAddr_pv _ _ _ _ _ 0 _ _ rfl Try.underlying29 rfl _ Try.sizeOf2 rfl rfl) ?_
 refine AOps_q 18 _ rfl rfl rfl (QOp_load_pv _ _ _ _ _ rfl Try.isAgg2 rfl rfl) ?_
 refine AOps_q 19 _ rfl rfl rfl (QOp_sub _ _ _ _ _ _ _ rfl rfl rfl) ?_
 refine AOps_q 20 _ rfl rfl rfl (QOp_mul _ _ _ _ _ _ _ rfl rfl rfl) ?_
 refine AOps_q 21 _ rfl rfl rfl (QOp_quo _ _ _ _ _ _ _ (by decide) rfl rfl rfl) ?_
 refine kN 1 rfl ?_
 refine kO (fun s19 => []) (fun s19 => []) h (fun os19 h hks19 => ?_) (fun s19 h => ?_)
 ·refine kR ?_
  refine kN 1 rfl ?_
  refine ACode_block ?_
  refine ACode_loopW (fun k0 E H => ∃ (x7 : Int), E = [(1, .d (.pv (colD p0) 0)), (3, iV (w64 ((w64 (p0.p * (w64 (p0.p - 1)))).tdiv 2))), (4, iV x7)] ∧ H = [] ∧ spec_l01Is_l0 k p0 k0 x7 = some os19) k _ _ (Weak_keep 0 hm [1, 3, 4] [] _ _ rfl rfl rfl) ⟨_, rfl, rfl, h⟩ ?_
  clear h
  rintro k0 E H ⟨x7, rfl, rfl, h⟩
  cases k0 with
  | zero => cases (show (none : Option (Sum (Unit) (Bool))) = some _ from h)
  | succ k0 =>
   rw [spec_l01Is_l0] at h
   refine ACode_seq ?_
   refine kR ?_
   refine kM 1 rfl ?_
   refine AOps_q 23 _ rfl rfl rfl (QOp_lss _ _ _ _ _ _ _ rfl rfl rfl) ?_
   refine AOps_nil ?_
   refine kI h rfl (fun h _ => ?_) (fun h _ => ?_)
   ·refine ACode_skip ?_
    refine kO (fun s18 => [(1, .d (.pv (colD p0) 0)), (3, iV (w64 ((w64 (p0.p * (w64 (p0.p - 1)))).tdiv 2))), (4, iV x7)]) (fun s18 => []) h (fun os18 h hks18 => ?_) (fun s18 h => ?_)
    ·refine ACode_block ?_
     refine kB (fun s16 => [(1, .d (.pv (colD p0) 0)), (3, iV (w64 ((w64 (p0.p * (w64 (p0.p - 1)))).tdiv 2))), (4, iV x7), (50, bV s16)]) (fun s16 => []) h (fun s16 h => ?_) (fun s16 h => ?_)
     ·refine (ACode_quiet mixed (by kernel_rfl) ?_)
      refine kQ 2 rfl ?_
      refine AQ_q 28 _ rfl rfl rfl (QOp_lss _ _ _ _ _ _ _ rfl rfl rfl) ?_
      refine kQ 1 rfl ?_
      refine AQ_case 29 _ rfl (fun hb9 => ?_) (fun hb9 => ?_)
      ·have h := iteT hb9 h
       refine kQ 1 rfl ?_
       refine AQ_q 31 _ rfl rfl rfl (QOp_fieldAddr_pv _ _ _ _ _ 2 _ _ rfl Try.underlying29 rfl _ Try.sizeOf27 rfl rfl) ?_
       obtain ⟨hc10, h⟩ := guardO h
       refine AQ_q 32 _ rfl rfl rfl (QOp_indexAddrA_pv _ _ _ _ _ _ _ _ _ rfl Try.underlying27 Try.sizeOf5 hc10.1 hc10.2 rfl rfl) ?_
       refine AQ_q 33 _ rfl rfl rfl (QOp_load_pv _ _ _ _ _ rfl Try.isAgg5 rfl (colD_get _ _ (by omega))) ?_
       refine AQ_q 34 _ rfl rfl rfl (QOp_fromByte _ _ _ _ _ rfl rfl Try.underlying2 wrap_i64_byte rfl) ?_
       refine AQ_q 35 _ rfl rfl rfl (QOp_fieldAddr_pv _ _ _ _ _ 1 _ _ rfl Try.underlying29 rfl _ Try.sizeOf2 rfl rfl) ?_
       refine AQ_q 36 _ rfl rfl rfl (QOp_load_pv _ _ _ _ _ rfl Try.isAgg2 rfl rfl) ?_
       refine AQ_q 37 _ rfl rfl rfl (QOp_geq _ _ _ _ _ _ _ rfl rfl rfl) ?_
       refine kQ 2 rfl ?_
       refine AQ_case 39 _ rfl (fun hb11 => ?_) (fun hb11 => ?_)
       ·have h := iteT hb11 h
        refine AQ_skip 40 rfl rfl rfl ?_
        refine AQ_skip 41 rfl rfl rfl ?_
        refine AQ_skip 42 rfl rfl rfl ?_
        refine AQ_skip 43 rfl rfl rfl ?_
        refine AQ_skip 44 rfl rfl rfl ?_
        refine AQ_skip 45 rfl rfl rfl ?_
        refine AQ_skip 46 rfl rfl rfl ?_
        refine AQ_skip 47 rfl rfl rfl ?_
        refine AQ_skip 48 rfl rfl rfl ?_
        refine AQ_skip 49 rfl rfl rfl ?_
        refine kQ 1 rfl ?_
        refine AQ_nil ?_
        cases h
        exact Weak_keep 0 hm [1, 3, 4, 50] [] _ _ rfl rfl rfl
       have h := iteF hb11 h
       refine kQ 2 rfl ?_
       refine AQ_q 42 _ rfl rfl rfl (QOp_geq _ _ _ _ _ _ _ rfl rfl rfl) ?_
       refine kQ 1 rfl ?_
       refine AQ_case 43 _ rfl (fun hb12 => ?_) (fun hb12 => ?_)
       ·have h := iteT hb12 h
        refine kQ 1 rfl ?_
        refine AQ_q 45 _ rfl rfl rfl (QOp_fieldAddr_pv _ _ _ _ _ 2 _ _ rfl Try.underlying29 rfl _ Try.sizeOf27 rfl rfl) ?_
        obtain ⟨hc13, h⟩ := guardO h
        refine AQ_q 46 _ rfl rfl rfl (QOp_indexAddrA_pv _ _ _ _ _ _ _ _ _ rfl Try.underlying27 Try.sizeOf5 hc13.1 hc13.2 rfl rfl) ?_
        refine AQ_q 47 _ rfl rfl rfl (QOp_load_pv _ _ _ _ _ rfl Try.isAgg5 rfl (colD_get _ _ (by omega))) ?_
        refine AQ_q 48 _ rfl rfl rfl (QOp_neq _ _ _ _ _ _ _ rfl rfl rfl) ?_
        refine kQ 2 rfl ?_
        refine AQ_nil ?_
        cases h
        exact Weak_keep 0 hm [1, 3, 4, 50] [] _ _ rfl rfl rfl
       have h := iteF hb12 h
       refine AQ_skip 44 rfl rfl rfl ?_
       refine AQ_skip 45 rfl rfl rfl ?_
       refine AQ_skip 46 rfl rfl rfl ?_
       refine AQ_skip 47 rfl rfl rfl ?_
       refine AQ_skip 48 rfl rfl rfl ?_
       refine kQ 2 rfl ?_
       refine AQ_nil ?_
       cases h
       exact Weak_keep 0 hm [1, 3, 4, 50] [] _ _ rfl rfl rfl
      have h := iteF hb9 h
      refine AQ_skip 30 rfl rfl rfl ?_
      refine AQ_skip 31 rfl rfl rfl ?_
      refine AQ_skip 32 rfl rfl rfl ?_
      refine AQ_skip 33 rfl rfl rfl ?_
      refine AQ_skip 34 rfl rfl rfl ?_
      refine AQ_skip 35 rfl rfl rfl ?_
      refine AQ_skip 36 rfl rfl rfl ?_
      refine AQ_skip 37 rfl rfl rfl ?_
      refine kQ 4 rfl ?_
      refine AQ_q 42 _ rfl rfl rfl (QOp_geq _ _ _ _ _ _ _ rfl rfl rfl) ?_
      refine kQ 1 rfl ?_
      refine AQ_case 43 _ rfl (fun hb14 => ?_) (fun hb14 => ?_)
      ·have h := iteT hb14 h
       refine kQ 1 rfl ?_
       refine AQ_q 45 _ rfl rfl rfl (QOp_fieldAddr_pv _ _ _ _ _ 2 _ _ rfl Try.underlying29 rfl _ Try.sizeOf27 rfl rfl) ?_
       obtain ⟨hc15, h⟩ := guardO h
       refine AQ_q 46 _ rfl rfl rfl (QOp_indexAddrA_pv _ _ _ _ _ _ _ _ _ rfl Try.underlying27 Try.sizeOf5 hc15.1 hc15.2 rfl rfl) ?_
       refine AQ_q 47 _ rfl rfl rfl (QOp_load_pv _ _ _ _ _ rfl Try.isAgg5 rfl (colD_get _ _ (by omega))) ?_
       refine AQ_q 48 _ rfl rfl rfl (QOp_neq _ _ _ _ _ _ _ rfl rfl rfl) ?_
       refine kQ 2 rfl ?_
       refine AQ_nil ?_
       cases h
       exact Weak_keep 0 hm [1, 3, 4, 50] [] _ _ rfl rfl rfl
      have h := iteF hb14 h
      refine AQ_skip 44 rfl rfl rfl ?_
      refine AQ_skip 45 rfl rfl rfl ?_
      refine AQ_skip 46 rfl rfl rfl ?_
      refine AQ_skip 47 rfl rfl rfl ?_
      refine AQ_skip 48 rfl rfl rfl ?_
      refine kQ 2 rfl ?_
      refine AQ_nil ?_
      cases h
      exact Weak_keep 0 hm [1, 3, 4, 50] [] _ _ rfl rfl rfl
     refine kI h rfl (fun h _ => ?_) (fun h _ => ?_)
     ·refine kR ?_
      refine kN 1 rfl ?_
      refine ACode_ret ?_
      obtain ⟨rr, hz20, h2⟩ := bindO h
      obtain rfl := Option.some.inj h2
      obtain rfl := Option.some.inj (show some rr = some _ from hks18)
      have h := hz20
      cases h
      have h := hks19
      cases h
      exact ⟨_, _, fun r a w h => ⟨r, h⟩, _, _, [], _, (.cons (ResV_tmp _ _ rfl) .nil), rfl, rfl, rfl, rfl, rfl⟩
     refine ACode_skip ?_
     cases h
     exact ⟨_, rfl, Weak_keep 0 hm [1, 3, 4] [] _ _ rfl rfl rfl⟩
    refine (ACode_region ?_)
    refine kM 1 rfl ?_
    refine AOps_q 25 _ rfl rfl rfl (QOp_add _ _ _ _ _ _ _ rfl rfl rfl) ?_
    refine kN 1 rfl ?_
    exact ⟨k0, _, _, Nat.lt_succ_self _, Weak_keep 0 hm [1, 3, 4] [] _ _ rfl rfl rfl, _, rfl, rfl, h⟩
   refine ACode_exit ?_
   cases h
   exact ⟨_, rfl, Weak_keep 0 hm [] [] _ _ rfl rfl rfl⟩
 refine kR ?_
 refine kN 1 rfl ?_
 refine ACode_ret ?_
 cases h
 exact ⟨_, _, fun r a w h => ⟨r, h⟩, _, _, [], _, (.cons (ResV_tmp _ _ rfl) .nil), rfl, rfl, rfl, rfl, rfl⟩

-- loop.example/g01362/spec.l05Code
def spec_l05Code (k : Nat) (p0 : Col) (p1 : List Int) : Option (Int) :=
 (spec_l01Is k p0).bind fun r1 => (if !r1 then some 1 else (spec_l05Sizes k p1 p0.k).bind fun r3 => some r3)
set_option maxRecDepth 100000 in
theorem spec_l05Code_ac (k : Nat) (p0 : Col) (p1 : List Int) (r : Int) (h : spec_l05Code k p0 p1 = some r) : AC Try.prog 109 [.d (.agg (colD p0)), .d (.sl none (intsD p1))] [] (fun res H' => res = [iV r] ∧ H' = []) := by
 refine AC_of_body true Try.func109 rfl Try.ntmps109 (rvs := [.tmp 4]) rfl rfl (fun G hG => ?_)
 have hm : G.H.length = 0 := by rw [hG]; rfl
 have hz : zeroG G.H = true := by rw [hG]; rfl
 unfold spec_l05Code at h
 refine kR ?_
 refine AOps_boxI 2 _ _ (.agg (colD p0)) (colD p0) rfl (colD_one _) rfl rfl rfl rfl rfl ?_
 refine kN 1 rfl ?_
 refine ACode_seq ?_
 refine kR ?_
 refine AOps_q 5 _ rfl rfl rfl (QOp_loadN_pv _ _ _ _ _ _ rfl Try.isAgg29 Try.sizeOf29 rfl (colD_all _) (colD_length _)) ?_
 obtain ⟨r1, hr1, h⟩ := bindO h
 refine kC [] 6 (bV r1) [] rfl Try.call81 rfl rfl (spec_l01Is_ac k p0 _ hr1) rfl ?_
 refine AOps_q 7 _ rfl rfl rfl (QOp_not _ _ _ rfl rfl) ?_
 refine AOps_nil ?_
 refine kI h rfl (fun h _ => ?_) (fun h _ => ?_)
 ·refine kR ?_
  refine kN 1 rfl ?_
  refine ACode_ret ?_
  cases h
  exact ⟨_, _, fun r a w h => ⟨r, h⟩, _, _, [], _, (.cons (ResV_tmp _ _ rfl) .nil), rfl, rfl, rfl, rfl, rfl⟩
 refine ACode_skip ?_
 refine kR ?_
 refine kM 1 rfl ?_
 refine AOps_q 9 _ rfl rfl rfl (QOp_fieldAddr_pv _ _ _ _ _ 1 _ _ rfl Try.underlying29 rfl _ Try.sizeOf2 rfl rfl) ?_
 refine AOps_q 10 _ rfl rfl rfl (QOp_load_pv _ _ _ _ _ rfl Try.isAgg2 rfl rfl) ?_
 obtain ⟨r3, hr3, h⟩ := bindO h
 refine kC [] 11 (iV r3) [] rfl Try.call41 rfl rfl (spec_l05Sizes_ac k p1 p0.k _ hr3) rfl ?_
 refine kN 1 rfl ?_
 refine ACode_ret ?_
 cases h
 exact ⟨_, _, fun r a w h => ⟨r, h⟩, _, _, [], _, (.cons (ResV_tmp _ _ rfl) .nil), rfl, rfl, rfl, rfl, rfl⟩

-- loop.example/g01362/spec.l05Given
def spec_l05Given (k : Nat) (p0 : Col) (p1 : List Int) : Option (Int) :=
 (spec_l05Code k p0 p1).bind fun r1 => (((if decide (r1 = 0) then (spec_l05Avoids k p0 p1).bind fun r3 => some (!r3) else some false) : Option (Bool)).bind fun s4 => (if s4 then some (.inr 5) else some (.inl ())) : Option (Sum (Unit) (Int))).bind fun os6 => (match os6 with | .inl s6 => some r1 | .inr rr => some rr)
set_option maxRecDepth 100000 in
theorem spec_l05Given_ac (k : Nat) (p0 : Col) (p1 : List Int) (r : Int) (h : spec_l05Given k p0 p1 = some r) : AC Try.prog 65 [.d (.agg (colD p0)), .d (.sl none (intsD p1))] [] (fun res H' => res = [iV r] ∧ H' = []) := by
 refine AC_of_body true Try.func65 rfl Try.ntmps65 (rvs := [.tmp 4]) rfl rfl (fun G hG => ?_)
 have hm : G.H.length = 0 := by rw [hG]; rfl
 have hz : zeroG G.H = true := by rw [hG]; rfl
 unfold spec_l05Given at h
 refine kR ?_
 refine AOps_boxI 2 _ _ (.agg (colD p0)) (colD p0) rfl (colD_one _) rfl rfl rfl rfl rfl ?_
 refine kN 1 rfl ?_
 refine kR ?_
 refine AOps_q 6 _ rfl rfl rfl (QOp_loadN_pv _ _ _ _ _ _ rfl Try.isAgg29 Try.sizeOf29 rfl (colD_all _) (colD_length _)) ?_
 refine kM 1 rfl ?_
 obtain ⟨r1, hr1, h⟩ := bindO h
 refine kC [] 8 (iV r1) [] rfl Try.call109 rfl rfl (spec_l05Code_ac k p0 p1 _ hr1) rfl ?_
 refine kN 1 rfl ?_
 refine kO (fun s6 => [(5, iV r1)]) (fun s6 => []) h (fun os6 h hks6 => ?_) (fun s6 h => ?_)
 ·refine kB (fun s4 => [(5, iV r1), (16, bV s4)]) (fun s4 => []) h (fun s4 h => ?_) (fun s4 h => ?_)
  ·refine (ACode_region ?_)
   refine kM 1 rfl ?_
   refine AOps_q 10 _ rfl rfl rfl (QOp_eql _ _ _ _ _ _ _ rfl rfl rfl) ?_
   refine kM 1 rfl ?_
   refine AOps_case 11 _ rfl (fun hb2 => ?_) (fun hb2 => ?_)
   ·have h := iteT hb2 h
    refine AOps_q 12 _ rfl rfl rfl (QOp_loadN_pv _ _ _ _ _ _ rfl Try.isAgg29 Try.sizeOf29 rfl (colD_all _) (colD_length _)) ?_
    refine kM 1 rfl ?_
    obtain ⟨r3, hr3, h⟩ := bindO h
    refine kC [] 14 (bV r3) [] rfl Try.call42 rfl rfl (spec_l05Avoids_ac k p0 p1 _ hr3) rfl ?_
    refine AOps_q 15 _ rfl rfl rfl (QOp_not _ _ _ rfl rfl) ?_
    refine kN 1 rfl ?_
    cases h
    exact Weak_keep 0 hm [5, 16] [] _ _ rfl rfl rfl
   have h := iteF hb2 h
   refine AOps_skip 12 rfl rfl rfl ?_
   refine AOps_skip 13 rfl rfl rfl ?_
   refine AOps_skip 14 rfl rfl rfl ?_
   refine AOps_skip 15 rfl rfl rfl ?_
   refine kN 1 rfl ?_
   cases h
   exact Weak_keep 0 hm [5, 16] [] _ _ rfl rfl rfl
  refine kI h rfl (fun h _ => ?_) (fun h _ => ?_)
  ·refine kR ?_
   refine kN 1 rfl ?_
   refine ACode_ret ?_
   cases h
   have h := hks6
   cases h
   exact ⟨_, _, fun r a w h => ⟨r, h⟩, _, _, [], _, (.cons (ResV_tmp _ _ rfl) .nil), rfl, rfl, rfl, rfl, rfl⟩
  refine ACode_skip ?_
  cases h
  exact ⟨_, rfl, Weak_keep 0 hm [5] [] _ _ rfl rfl rfl⟩
 refine kR ?_
 refine kN 2 rfl ?_
 refine ACode_ret ?_
 cases h
 exact ⟨_, _, fun r a w h => ⟨r, h⟩, _, _, [], _, (.cons (ResV_tmp _ _ rfl) .nil), rfl, rfl, rfl, rfl, rfl⟩

-- loop.example/g01362/spec.FreeChanges
def spec_FreeChanges_l2 (k : Nat) (p0 : Col) (p1 : List Int) (x3 : Int) (x6 : Int) : Nat → Int → (List (List Int)) → Option (List (List Int))
 | 0, _, _ => none
 | k2 + 1, x9, x10 => (if decide (x9 < p0.k) then ((((spec_l01At p0 x3 x6).bind fun r12 => (if decide (x9 = r12) then some true else (if 0 ≤ x9 ∧ x9 < (p1.length : Int) then (if decide ((p1.getD x9.toNat 0) < 3) then (if 0 ≤ x9 ∧ x9 < (p1.length : Int) then (if decide (0 < (p1.getD x9.toNat 0)) then some true else (spec_l01Around k p0 x3 x9).bind fun r18 => (spec_l01Around k p0 x6 x9).bind fun r19 => (if 0 ≤ x9 ∧ x9 < (p1.length : Int) then (spec_l03Clique k p0 x9 (bAnd .i64 r18 r19) (w64 ((p1.getD x9.toNat 0) - 2))).bind fun r21 => some r21 else none)) else none) else (spec_l01Around k p0 x3 x9).bind fun r22 => (spec_l01Around k p0 x6 x9).bind fun r23 => (if 0 ≤ x9 ∧ x9 < (p1.length : Int) then (spec_l03Clique k p0 x9 (bAnd .i64 r22 r23) (w64 ((p1.getD x9.toNat 0) - 2))).bind fun r25 => some r25 else none)) else none)) : Option (Bool)).bind fun s26 => (if s26 then (some x10).bind fun rr => some (.inr rr) else some (.inl ())) : Option (Sum (Unit) (List (List Int)))).bind fun os28 => (match os28 with | .inl s28 => (if x10.length + ([[x3, x6, x9]]).length ≤ 1099511627776 then some (x10 ++ ([[x3, x6, x9]])) else none) | .inr rr => some rr) : Option (List (List Int))).bind fun s30 => spec_FreeChanges_l2 k p0 p1 x3 x6 k2 (w64 (x9 + 1)) s30 else some x10)
def spec_FreeChanges_l1 (k : Nat) (p0 : Col) (p1 : List Int) (x3 : Int) : Nat → Int → (List (List Int)) → Option (List (List Int))
 | 0, _, _ => none
 | k1 + 1, x6, x7 => (if decide (x6 < p0.p) then (spec_FreeChanges_l2 k p0 p1 x3 x6 k 0 x7 : Option (List (List Int))).bind fun s31 => spec_FreeChanges_l1 k p0 p1 x3 k1 (w64 (x6 + 1)) s31 else some x7)
def spec_FreeChanges_l0 (k : Nat) (p0 : Col) (p1 : List Int) : Nat → Int → (List (List Int)) → Option (List (List Int))
 | 0, _, _ => none
 | k0 + 1, x3, x4 => (if decide (x3 < p0.p) then (spec_FreeChanges_l1 k p0 p1 x3 k (w64 (x3 + 1)) x4 : Option (List (List Int))).bind fun s32 => spec_FreeChanges_l0 k p0 p1 k0 (w64 (x3 + 1)) s32 else some x4)
def spec_FreeChanges (k : Nat) (p0 : Col) (p1 : List Int) : Option (List (List Int) × Int) :=
 (spec_l05Given k p0 p1).bind fun r1 => (if !decide (r1 = 0) then some ([], r1) else (spec_FreeChanges_l0 k p0 p1 k 0 ([] : List (List Int)) : Option (List (List Int))).bind fun s33 => some (s33, 0))
set_option maxRecDepth 100000 in
theorem spec_FreeChanges_ac (k : Nat) (p0 : Col) (p1 : List Int) (r : List (List Int) × Int) (h : spec_FreeChanges k p0 p1 = some r) : AC Try.prog 17 [.d (.agg (colD p0)), .d (.sl none (intsD p1))] [] (fun res H' => res = [.d (.sl none (rowsD r.1)), iV r.2] ∧ H' = []) := by
 refine AC_of_body true Try.func17 rfl Try.ntmps17 (rvs := [.tmp 4, .tmp 5]) rfl rfl (fun G hG => ?_)
 have hm : G.H.length = 0 := by rw [hG]; rfl
 have hz : zeroG G.H = true := by rw [hG]; rfl
 unfold spec_FreeChanges at h
 refine kR ?_
 refine AOps_boxI 2 _ _ (.agg (colD p0)) (colD p0) rfl (colD_one _) rfl rfl rfl rfl rfl ?_
 refine kN 2 rfl ?_
 refine ACode_seq ?_
 refine kR ?_
 refine AOps_q 11 _ rfl rfl rfl (QOp_loadN_pv _ _ _ _ _ _ rfl Try.isAgg29 Try.sizeOf29 rfl (colD_all _) (colD_length _)) ?_
 refine kM 1 rfl ?_
 obtain ⟨r1, hr1, h⟩ := bindO h
 refine kC [] 13 (iV r1) [] rfl Try.call65 rfl rfl (spec_l05Given_ac k p0 p1 _ hr1) rfl ?_
 refine kN 1 rfl ?_
 refine kR ?_
 refine kM 1 rfl ?_
 refine AOps_q 15 _ rfl rfl rfl (QOp_neq _ _ _ _ _ _ _ rfl rfl rfl) ?_
 refine AOps_nil ?_
 refine kI h rfl (fun h _ => ?_) (fun h _ => ?_)
 ·refine kR ?_
  refine kN 3 rfl ?_
  refine ACode_ret ?_
  cases h
  exact ⟨_, _, fun r a w h => ⟨r, h⟩, _, _, [], _, (.cons (ResV_tmp _ _ rfl) (.cons (ResV_tmp _ _ rfl) .nil)), rfl, rfl, rfl, rfl, rfl⟩
 refine ACode_skip ?_
 refine kR ?_
 refine AOps_buildSlice 17 _ _ _ [] (rowsD ([] : List (List Int))) _ rfl rfl rfl rfl rfl (by decide) Try.underlying41 Try.sizeOf24 (zero_of Try.typeInfo24 rfl) rfl rfl (rowsD_one _) ?_
 refine kN 1 rfl ?_
 refine kB (fun s33 => [(7, .vec 0 0)]) (fun s33 => [.vec 0 (rowsD s33)]) h (fun s33 h => ?_) (fun s33 h => ?_)
 ·refine kR ?_
  refine kN 1 rfl ?_
  refine ACode_block ?_
  refine ACode_loopW (fun k0 E H => ∃ (x3 : Int) (x4 : List (List Int)), E = [(1, .d (.sl none (intsD p1))), (2, .d (.pv (colD p0) 0)), (7, .vec 0 0), (8, iV x3)] ∧ H = [.vec 0 (rowsD x4)] ∧ spec_FreeChanges_l0 k p0 p1 k0 x3 x4 = some s33) k _ _ (Weak_keep 0 hm [1, 2, 7, 8] [0] _ _ rfl rfl rfl) ⟨_, _, rfl, rfl, h⟩ ?_
  clear h
  rintro k0 E H ⟨x3, x4, rfl, rfl, h⟩
  cases k0 with
  | zero => cases (show (none : Option (List (List Int))) = some _ from h)
  | succ k0 =>
   rw [spec_FreeChanges_l0] at h
   refine ACode_seq ?_
   refine kR ?_
   refine kM 1 rfl ?_
   refine AOps_q 19 _ rfl rfl rfl (QOp_fieldAddr_pv _ _ _ _ _ 0 _ _ rfl Try.underlying29 rfl _ Try.sizeOf2 rfl rfl) ?_
   refine AOps_q 20 _ rfl rfl rfl (QOp_load_pv _ _ _ _ _ rfl Try.isAgg2 rfl rfl) ?_
   refine AOps_q 21 _ rfl rfl rfl (QOp_lss _ _ _ _ _ _ _ rfl rfl rfl) ?_
   refine AOps_nil ?_
   refine kI h rfl (fun h _ => ?_) (fun h _ => ?_)
   ·refine ACode_skip ?_
    refine kB (fun s32 => [(1, .d (.sl none (intsD p1))), (2, .d (.pv (colD p0) 0)), (7, .vec 0 0), (8, iV x3)]) (fun s32 => [.vec 0 (rowsD s32)]) h (fun s32 h => ?_) (fun s32 h => ?_)
    ·refine ACode_block ?_
     refine kR ?_
     refine kM 1 rfl ?_
     refine AOps_q 25 _ rfl rfl rfl (QOp_add _ _ _ _ _ _ _ rfl rfl rfl) ?_
     refine kN 1 rfl ?_
     refine ACode_block ?_
     refine ACode_loopW (fun k1 E H => ∃ (x6 : Int) (x7 : List (List Int)), E = [(1, .d (.sl none (intsD p1))), (2, .d (.pv (colD p0) 0)), (7, .vec 0 0), (8, iV x3), (9, iV x6)] ∧ H = [.vec 0 (rowsD x7)] ∧ spec_FreeChanges_l1 k p0 p1 x3 k1 x6 x7 = some s32) k _ _ (Weak_keep 0 hm [1, 2, 7, 8, 9] [0] _ _ rfl rfl rfl) ⟨_, _, rfl, rfl, h⟩ ?_
     clear h
     rintro k1 E H ⟨x6, x7, rfl, rfl, h⟩
     cases k1 with
     | zero => cases (show (none : Option (List (List Int))) = some _ from h)
     | succ k1 =>
      rw [spec_FreeChanges_l1] at h
      refine ACode_seq ?_
      refine kR ?_
      refine kM 1 rfl ?_
      refine AOps_q 27 _ rfl rfl rfl (QOp_fieldAddr_pv _ _ _ _ _ 0 _ _ rfl Try.underlying29 rfl _ Try.sizeOf2 rfl rfl) ?_
      refine AOps_q 28 _ rfl rfl rfl (QOp_load_pv _ _ _ _ _ rfl Try.isAgg2 rfl rfl) ?_
      refine AOps_q 29 _ rfl rfl rfl (QOp_lss _ _ _ _ _ _ _ rfl rfl rfl) ?_
      refine AOps_nil ?_
      refine kI h rfl (fun h _ => ?_) (fun h _ => ?_)
      ·refine ACode_skip ?_
       refine kB (fun s31 => [(1, .d (.sl none (intsD p1))), (2, .d (.pv (colD p0) 0)), (7, .vec 0 0), (8, iV x3), (9, iV x6)]) (fun s31 => [.vec 0 (rowsD s31)]) h (fun s31 h => ?_) (fun s31 h => ?_)
       ·refine ACode_block ?_
        refine kR ?_
        refine kN 1 rfl ?_
        refine ACode_block ?_
        refine ACode_loopW (fun k2 E H => ∃ (x9 : Int) (x10 : List (List Int)), E = [(1, .d (.sl none (intsD p1))), (2, .d (.pv (colD p0) 0)), (7, .vec 0 0), (8, iV x3), (9, iV x6), (10, iV x9)] ∧ H = [.vec 0 (rowsD x10)] ∧ spec_FreeChanges_l2 k p0 p1 x3 x6 k2 x9 x10 = some s31) k _ _ (Weak_keep 0 hm [1, 2, 7, 8, 9, 10] [0] _ _ rfl rfl rfl) ⟨_, _, rfl, rfl, h⟩ ?_
        clear h
        rintro k2 E H ⟨x9, x10, rfl, rfl, h⟩
        cases k2 with
        | zero => cases (show (none : Option (List (List Int))) = some _ from h)
        | succ k2 =>
         rw [spec_FreeChanges_l2] at h
         refine ACode_seq ?_
         refine kR ?_
         refine kM 1 rfl ?_
         refine AOps_q 33 _ rfl rfl rfl (QOp_fieldAddr_pv _ _ _ _ _ 1 _ _ rfl Try.underlying29 rfl _ Try.sizeOf2 rfl rfl) ?_
         refine AOps_q 34 _ rfl rfl rfl (QOp_load_pv _ _ _ _ _ rfl Try.isAgg2 rfl rfl) ?_
         refine AOps_q 35 _ rfl rfl rfl (QOp_lss _ _ _ _ _ _ _ rfl rfl rfl) ?_
         refine AOps_nil ?_
         refine kI h rfl (fun h _ => ?_) (fun h _ => ?_)
         ·refine ACode_skip ?_
          refine kB (fun s30 => [(1, .d (.sl none (intsD p1))), (2, .d (.pv (colD p0) 0)), (7, .vec 0 0), (8, iV x3), (9, iV x6), (10, iV x9)]) (fun s30 => [.vec 0 (rowsD s30)]) h (fun s30 h => ?_) (fun s30 h => ?_)
          ·refine ACode_block ?_
           refine kO (fun s28 => [(1, .d (.sl none (intsD p1))), (2, .d (.pv (colD p0) 0)), (7, .vec 0 0), (8, iV x3), (9, iV x6), (10, iV x9)]) (fun s28 => [.vec 0 (rowsD x10)]) h (fun os28 h hks28 => ?_) (fun s28 h => ?_)
           ·refine kB (fun s26 => [(1, .d (.sl none (intsD p1))), (2, .d (.pv (colD p0) 0)), (7, .vec 0 0), (8, iV x3), (9, iV x6), (10, iV x9), (76, bV s26)]) (fun s26 => [.vec 0 (rowsD x10)]) h (fun s26 h => ?_) (fun s26 h => ?_)
            ·refine (ACode_quiet mixed (by kernel_rfl) ?_)
             refine kQ 1 rfl ?_
             refine AQ_q 39 _ rfl rfl rfl (QOp_loadN_pv _ _ _ _ _ _ rfl Try.isAgg29 Try.sizeOf29 rfl (colD_all _) (colD_length _)) ?_
             refine kQ 2 rfl ?_
             obtain ⟨r12, hr12, h⟩ := bindO h
             refine AQ_call 42 _ _ _ _ _ _ _ _ _ rfl rfl rfl rfl rfl rfl rfl Try.call66 rfl rfl rfl (spec_l01At_ac p0 x3 x6 _ hr12) ?_
             refine AQ_q 43 _ rfl rfl rfl (QOp_eql _ _ _ _ _ _ _ rfl rfl rfl) ?_
             refine kQ 1 rfl ?_
             refine AQ_case 44 _ rfl (fun hb13 => ?_) (fun hb13 => ?_)
             ·have h := iteT hb13 h
              refine AQ_skip 45 rfl rfl rfl ?_
              refine AQ_skip 46 rfl rfl rfl ?_
              refine AQ_skip 47 rfl rfl rfl ?_
              refine AQ_skip 48 rfl rfl rfl ?_
              refine AQ_skip 49 rfl rfl rfl ?_
              refine AQ_skip 50 rfl rfl rfl ?_
              refine AQ_skip 51 rfl rfl rfl ?_
              refine AQ_skip 52 rfl rfl rfl ?_
              refine AQ_skip 53 rfl rfl rfl ?_
              refine AQ_skip 54 rfl rfl rfl ?_
              refine AQ_skip 55 rfl rfl rfl ?_
              refine AQ_skip 56 rfl rfl rfl ?_
              refine kQ 2 rfl ?_
              refine AQ_skip 59 rfl rfl rfl ?_
              refine AQ_skip 60 rfl rfl rfl ?_
              refine AQ_skip 61 rfl rfl rfl ?_
              refine AQ_skip 62 rfl rfl rfl ?_
              refine AQ_skip 63 rfl rfl rfl ?_
              refine AQ_skip 64 rfl rfl rfl ?_
              refine AQ_skip 65 rfl rfl rfl ?_
              refine AQ_skip 66 rfl rfl rfl ?_
              refine AQ_skip 67 rfl rfl rfl ?_
              refine AQ_skip 68 rfl rfl rfl ?_
              refine AQ_skip 69 rfl rfl rfl ?_
              refine AQ_skip 70 rfl rfl rfl ?_
              refine AQ_skip 71 rfl rfl rfl ?_
              refine AQ_skip 72 rfl rfl rfl ?_
              refine AQ_skip 73 rfl rfl rfl ?_
              refine AQ_skip 74 rfl rfl rfl ?_
              refine AQ_skip 75 rfl rfl rfl ?_
              refine kQ 1 rfl ?_
              refine AQ_nil ?_
              cases h
              exact Weak_keep 0 hm [1, 2, 7, 8, 9, 10, 76] [0] _ _ rfl rfl rfl
             have h := iteF hb13 h
             refine kQ 2 rfl ?_
             obtain ⟨hc14, h⟩ := guardO h
             refine AQ_q 47 _ rfl rfl rfl (QOp_indexAddr_sl _ _ _ _ _ _ _ _ rfl Try.underlying24 Try.sizeOf2 hc14.1 (by rw [intsD_length]; exact hc14.2) rfl rfl) ?_
             refine AQ_q 48 _ rfl rfl rfl (QOp_load_pv _ _ _ _ _ rfl Try.isAgg2 rfl (intsD_get _ _ 0 (by omega))) ?_
             refine AQ_q 49 _ rfl rfl rfl (QOp_lss _ _ _ _ _ _ _ rfl rfl rfl) ?_
             refine kQ 1 rfl ?_
             refine AQ_case 50 _ rfl (fun hb15 => ?_) (fun hb15 => ?_)
             ·have h := iteT hb15 h
              refine kQ 2 rfl ?_
              obtain ⟨hc16, h⟩ := guardO h
              refine AQ_q 53 _ rfl rfl rfl (QOp_indexAddr_sl _ _ _ _ _ _ _ _ rfl Try.underlying24 Try.sizeOf2 hc16.1 (by rw [intsD_length]; exact hc16.2) rfl rfl) ?_
              refine AQ_q 54 _ rfl rfl rfl (QOp_load_pv _ _ _ _ _ rfl Try.isAgg2 rfl (intsD_get _ _ 0 (by omega))) ?_
              refine AQ_q 55 _ rfl rfl rfl (QOp_gtr _ _ _ _ _ _ _ rfl rfl rfl) ?_
              refine kQ 3 rfl ?_
              refine AQ_case 58 _ rfl (fun hb17 => ?_) (fun hb17 => ?_)
              ·have h := iteT hb17 h
               refine AQ_skip 59 rfl rfl rfl ?_
               refine AQ_skip 60 rfl rfl rfl ?_
               refine AQ_skip 61 rfl rfl rfl ?_
               refine AQ_skip 62 rfl rfl rfl ?_
               refine AQ_skip 63 rfl rfl rfl ?_
               refine AQ_skip 64 rfl rfl rfl ?_
               refine AQ_skip 65 rfl rfl rfl ?_
               refine AQ_skip 66 rfl rfl rfl ?_
               refine AQ_skip 67 rfl rfl rfl ?_
               refine AQ_skip 68 rfl rfl rfl ?_
               refine AQ_skip 69 rfl rfl rfl ?_
               refine AQ_skip 70 rfl rfl rfl ?_
               refine AQ_skip 71 rfl rfl rfl ?_
               refine AQ_skip 72 rfl rfl rfl ?_
               refine AQ_skip 73 rfl rfl rfl ?_
               refine AQ_skip 74 rfl rfl rfl ?_
               refine AQ_skip 75 rfl rfl rfl ?_
               refine kQ 1 rfl ?_
               refine AQ_nil ?_
               cases h
               exact Weak_keep 0 hm [1, 2, 7, 8, 9, 10, 76] [0] _ _ rfl rfl rfl
              have h := iteF hb17 h
              refine AQ_q 59 _ rfl rfl rfl (QOp_loadN_pv _ _ _ _ _ _ rfl Try.isAgg29 Try.sizeOf29 rfl (colD_all _) (colD_length _)) ?_
              refine kQ 1 rfl ?_
              refine AQ_q 61 _ rfl rfl rfl (QOp_loadN_pv _ _ _ _ _ _ rfl Try.isAgg29 Try.sizeOf29 rfl (colD_all _) (colD_length _)) ?_
              refine kQ 2 rfl ?_
              obtain ⟨r18, hr18, h⟩ := bindO h
              refine AQ_call 64 _ _ _ _ _ _ _ _ _ rfl rfl rfl rfl rfl rfl rfl Try.call68 rfl rfl rfl (spec_l01Around_ac k p0 x3 x9 _ hr18) ?_
              refine AQ_q 65 _ rfl rfl rfl (QOp_loadN_pv _ _ _ _ _ _ rfl Try.isAgg29 Try.sizeOf29 rfl (colD_all _) (colD_length _)) ?_
              refine kQ 2 rfl ?_
              obtain ⟨r19, hr19, h⟩ := bindO h
              refine AQ_call 68 _ _ _ _ _ _ _ _ _ rfl rfl rfl rfl rfl rfl rfl Try.call68 rfl rfl rfl (spec_l01Around_ac k p0 x6 x9 _ hr19) ?_
              refine AQ_q 69 _ rfl rfl rfl (QOp_and _ _ _ _ _ _ _ rfl rfl rfl) ?_
              refine kQ 2 rfl ?_
              obtain ⟨hc20, h⟩ := guardO h
              refine AQ_q 72 _ rfl rfl rfl (QOp_indexAddr_sl _ _ _ _ _ _ _ _ rfl Try.underlying24 Try.sizeOf2 hc20.1 (by rw [intsD_length]; exact hc20.2) rfl rfl) ?_
              refine AQ_q 73 _ rfl rfl rfl (QOp_load_pv _ _ _ _ _ rfl Try.isAgg2 rfl (intsD_get _ _ 0 (by omega))) ?_
              refine AQ_q 74 _ rfl rfl rfl (QOp_sub _ _ _ _ _ _ _ rfl rfl rfl) ?_
              obtain ⟨r21, hr21, h⟩ := bindO h
              refine AQ_call 75 _ _ _ _ _ _ _ _ _ rfl rfl rfl rfl rfl rfl rfl Try.call67 rfl rfl rfl (spec_l03Clique_ac k p0 x9 (bAnd .i64 r18 r19) (w64 ((p1.getD x9.toNat 0) - 2)) _ hr21) ?_
              refine kQ 1 rfl ?_
              refine AQ_nil ?_
              cases h
              exact Weak_keep 0 hm [1, 2, 7, 8, 9, 10, 76] [0] _ _ rfl rfl rfl
             have h := iteF hb15 h
             refine AQ_skip 51 rfl rfl rfl ?_
             refine AQ_skip 52 rfl rfl rfl ?_
             refine AQ_skip 53 rfl rfl rfl ?_
             refine AQ_skip 54 rfl rfl rfl ?_
             refine AQ_skip 55 rfl rfl rfl ?_
             refine kQ 3 rfl ?_
             refine AQ_q 59 _ rfl rfl rfl (QOp_loadN_pv _ _ _ _ _ _ rfl Try.isAgg29 Try.sizeOf29 rfl (colD_all _) (colD_length _)) ?_
             refine kQ 1 rfl ?_
             refine AQ_q 61 _ rfl rfl rfl (QOp_loadN_pv _ _ _ _ _ _ rfl Try.isAgg29 Try.sizeOf29 rfl (colD_all _) (colD_length _)) ?_
             refine kQ 2 rfl ?_
             obtain ⟨r22, hr22, h⟩ := bindO h
             refine AQ_call 64 _ _ _ _ _ _ _ _ _ rfl rfl rfl rfl rfl rfl rfl Try.call68 rfl rfl rfl (spec_l01Around_ac k p0 x3 x9 _ hr22) ?_
             refine AQ_q 65 _ rfl rfl rfl (QOp_loadN_pv _ _ _ _ _ _ rfl Try.isAgg29 Try.sizeOf29 rfl (colD_all _) (colD_length _)) ?_
             refine kQ 2 rfl ?_
             obtain ⟨r23, hr23, h⟩ := bindO h
             refine AQ_call 68 _ _ _ _ _ _ _ _ _ rfl rfl rfl rfl rfl rfl rfl Try.call68 rfl rfl rfl (spec_l01Around_ac k p0 x6 x9 _ hr23) ?_
             refine AQ_q 69 _ rfl rfl rfl (QOp_and _ _ _ _ _ _ _ rfl rfl rfl) ?_
             refine kQ 2 rfl ?_
             obtain ⟨hc24, h⟩ := guardO h
             refine AQ_q 72 _ rfl rfl rfl (QOp_indexAddr_sl _ _ _ _ _ _ _ _ rfl Try.underlying24 Try.sizeOf2 hc24.1 (by rw [intsD_length]; exact hc24.2) rfl rfl) ?_
             refine AQ_q 73 _ rfl rfl rfl (QOp_load_pv _ _ _ _ _ rfl Try.isAgg2 rfl (intsD_get _ _ 0 (by omega))) ?_
             refine AQ_q 74 _ rfl rfl rfl (QOp_sub _ _ _ _ _ _ _ rfl rfl rfl) ?_
             obtain ⟨r25, hr25, h⟩ := bindO h
             refine AQ_call 75 _ _ _ _ _ _ _ _ _ rfl rfl rfl rfl rfl rfl rfl Try.call67 rfl rfl rfl (spec_l03Clique_ac k p0 x9 (bAnd .i64 r22 r23) (w64 ((p1.getD x9.toNat 0) - 2)) _ hr25) ?_
             refine kQ 1 rfl ?_
             refine AQ_nil ?_
             cases h
             exact Weak_keep 0 hm [1, 2, 7, 8, 9, 10, 76] [0] _ _ rfl rfl rfl
            refine kI h rfl (fun h _ => ?_) (fun h _ => ?_)
            ·refine ACode_exit ?_
             obtain ⟨rr, hz34, h2⟩ := bindO h
             obtain rfl := Option.some.inj h2
             obtain rfl := Option.some.inj (show some rr = some _ from hks28)
             have h := hz34
             cases h
             exact Weak_keep 0 hm [1, 2, 7, 8, 9, 10] [0] _ _ rfl rfl rfl
            refine ACode_skip ?_
            cases h
            exact ⟨_, rfl, Weak_keep 0 hm [1, 2, 7, 8, 9, 10] [0] _ _ rfl rfl rfl⟩
           refine (ACode_region ?_)
           refine kM 4 rfl ?_
           refine AOps_buildSlice 81 _ _ _ [_, _, _] (intsD ([x3, x6, x9])) _ rfl rfl rfl rfl rfl (by decide) Try.underlying24 Try.sizeOf2 (zero_of Try.typeInfo2 rfl) rfl rfl (intsD_one _) ?_
           refine AOps_freeze 81 1 0 _ rfl rfl ?_
           refine AOps_buildSlice 82 _ _ _ [_] (rowsD ([[x3, x6, x9]])) _ rfl rfl rfl rfl rfl (by decide) Try.underlying41 Try.sizeOf24 (zero_of Try.typeInfo24 rfl) rfl rfl (rowsD_one _) ?_
           obtain ⟨hc29, h⟩ := guardO h
           refine AOps_append 83 _ _ _ _ _ _ _ _ _ _ _ _ rfl rfl rfl rfl rfl rfl rfl Try.underlying41 Try.type24 rfl rfl rfl (by decide) rfl rfl rfl rfl (rowsD_one _) (by rw [rowsD_length, rowsD_length]; exact hc29) ?_
           rw [rowsD_app]
           refine kN 1 rfl ?_
           cases h
           exact Weak_trans (Weak_keep 0 hm [1, 2, 7, 8, 9, 10] [0] _ _ rfl rfl rfl) (Weak_reset 0 hm hz [1, 2, 7, 8, 9, 10] _ _ rfl rfl)
          refine (ACode_region ?_)
          refine kM 1 rfl ?_
          refine AOps_q 37 _ rfl rfl rfl (QOp_add _ _ _ _ _ _ _ rfl rfl rfl) ?_
          refine kN 1 rfl ?_
          exact ⟨k2, _, _, Nat.lt_succ_self _, Weak_keep 0 hm [1, 2, 7, 8, 9, 10] [0] _ _ rfl rfl rfl, _, _, rfl, rfl, h⟩
         refine ACode_exit ?_
         cases h
         exact Weak_keep 0 hm [1, 2, 7, 8, 9] [0] _ _ rfl rfl rfl
       refine (ACode_region ?_)
       refine kM 1 rfl ?_
       refine AOps_q 31 _ rfl rfl rfl (QOp_add _ _ _ _ _ _ _ rfl rfl rfl) ?_
       refine kN 1 rfl ?_
       exact ⟨k1, _, _, Nat.lt_succ_self _, Weak_keep 0 hm [1, 2, 7, 8, 9] [0] _ _ rfl rfl rfl, _, _, rfl, rfl, h⟩
      refine ACode_exit ?_
      cases h
      exact Weak_keep 0 hm [1, 2, 7, 8] [0] _ _ rfl rfl rfl
    refine (ACode_region ?_)
    refine kM 1 rfl ?_
    refine AOps_q 23 _ rfl rfl rfl (QOp_add _ _ _ _ _ _ _ rfl rfl rfl) ?_
    refine kN 1 rfl ?_
    exact ⟨k0, _, _, Nat.lt_succ_self _, Weak_keep 0 hm [1, 2, 7, 8] [0] _ _ rfl rfl rfl, _, _, rfl, rfl, h⟩
   refine ACode_exit ?_
   cases h
   exact Weak_keep 0 hm [7] [0] _ _ rfl rfl rfl
 refine kR ?_
 refine kN 3 rfl ?_
 refine ACode_ret ?_
 cases h
 exact ⟨_, _, fun r a w h => ⟨r, h⟩, _, _, [], _, (.cons (ResV_tmp _ _ rfl) (.cons (ResV_tmp _ _ rfl) .nil)), rfl, rfl, rfl, rfl, rfl⟩

-- loop.example/g01362/laws.likeInts
def laws_likeInts_l0 (p0 : List Int) (p1 : List Int) : Nat → Int → Option (Sum (Unit) (Bool))
 | 0, _ => none
 | k0 + 1, x2 => (if decide (x2 < (p0.length : Int)) then (if 0 ≤ x2 ∧ x2 < (p0.length : Int) then (if 0 ≤ x2 ∧ x2 < (p1.length : Int) then (if !decide ((p0.getD x2.toNat 0) = (p1.getD x2.toNat 0)) then some (.inr false) else laws_likeInts_l0 p0 p1 k0 (w64 (x2 + 1))) else none) else none) else some (.inl ()))
def laws_likeInts (k : Nat) (p0 : List Int) (p1 : List Int) : Option (Bool) :=
 (if !decide ((p0.length : Int) = (p1.length : Int)) then some false else (laws_likeInts_l0 p0 p1 k 0 : Option (Sum (Unit) (Bool))).bind fun os7 => (match os7 with | .inl s7 => some true | .inr rr => some rr))
set_option maxRecDepth 100000 in
theorem laws_likeInts_ac (k : Nat) (p0 : List Int) (p1 : List Int) (r : Bool) (h : laws_likeInts k p0 p1 = some r) : AC Try.prog 25 [.d (.sl none (intsD p0)), .d (.sl none (intsD p1))] [] (fun res H' => res = [bV r] ∧ H' = []) := by
 refine AC_of_body true Try.func25 rfl Try.ntmps25 (rvs := [.tmp 4]) rfl rfl (fun G hG => ?_)
 have hm : G.H.length = 0 := by rw [hG]; rfl
 have hz : zeroG G.H = true := by rw [hG]; rfl
 unfold laws_likeInts at h
 refine kR ?_
 refine kN 1 rfl ?_
 refine ACode_seq ?_
 refine kR ?_
 refine kM 1 rfl ?_
 refine AOps_q 7 _ rfl rfl rfl (QOp_len_sl _ _ _ _ _ _ _ (intsD_length _) rfl rfl rfl rfl Try.underlying24 rfl) ?_
 refine kM 1 rfl ?_
 refine AOps_q 9 _ rfl rfl rfl (QOp_len_sl _ _ _ _ _ _ _ (intsD_length _) rfl rfl rfl rfl Try.underlying24 rfl) ?_
 refine AOps_q 10 _ rfl rfl rfl (QOp_neq _ _ _ _ _ _ _ rfl rfl rfl) ?_
 refine AOps_nil ?_
 refine kI h rfl (fun h _ => ?_) (fun h _ => ?_)
 ·refine kR ?_
  refine kN 1 rfl ?_
  refine ACode_ret ?_
  cases h
  exact ⟨_, _, fun r a w h => ⟨r, h⟩, _, _, [], _, (.cons (ResV_tmp _ _ rfl) .nil), rfl, rfl, rfl, rfl, rfl⟩
 refine ACode_skip ?_
 refine kO (fun s7 => []) (fun s7 => []) h (fun os7 h hks7 => ?_) (fun s7 h => ?_)
 ·refine kR ?_
  refine kN 1 rfl ?_
  refine ACode_block ?_
  refine ACode_loopW (fun k0 E H => ∃ (x2 : Int), E = [(0, .d (.sl none (intsD p0))), (1, .d (.sl none (intsD p1))), (5, iV x2)] ∧ H = [] ∧ laws_likeInts_l0 p0 p1 k0 x2 = some os7) k _ _ (Weak_keep 0 hm [0, 1, 5] [] _ _ rfl rfl rfl) ⟨_, rfl, rfl, h⟩ ?_
  clear h
  rintro k0 E H ⟨x2, rfl, rfl, h⟩
  cases k0 with
  | zero => cases (show (none : Option (Sum (Unit) (Bool))) = some _ from h)
  | succ k0 =>
   rw [laws_likeInts_l0] at h
   refine ACode_seq ?_
   refine kR ?_
   refine kM 2 rfl ?_
   refine AOps_q 13 _ rfl rfl rfl (QOp_len_sl _ _ _ _ _ _ _ (intsD_length _) rfl rfl rfl rfl Try.underlying24 rfl) ?_
   refine AOps_q 14 _ rfl rfl rfl (QOp_lss _ _ _ _ _ _ _ rfl rfl rfl) ?_
   refine AOps_nil ?_
   refine kI h rfl (fun h _ => ?_) (fun h _ => ?_)
   ·refine ACode_skip ?_
    refine ACode_seq ?_
    refine ACode_block ?_
    refine ACode_seq (ACode_quiet mixed (by kernel_rfl) ?_)
    refine kQ 2 rfl ?_
    obtain ⟨hc4, h⟩ := guardO h
    refine AQ_q 19 _ rfl rfl rfl (QOp_indexAddr_sl _ _ _ _ _ _ _ _ rfl Try.underlying24 Try.sizeOf2 hc4.1 (by rw [intsD_length]; exact hc4.2) rfl rfl) ?_
    refine AQ_q 20 _ rfl rfl rfl (QOp_load_pv _ _ _ _ _ rfl Try.isAgg2 rfl (intsD_get _ _ 0 (by omega))) ?_
    refine kQ 2 rfl ?_
    obtain ⟨hc5, h⟩ := guardO h
    refine AQ_q 23 _ rfl rfl rfl (QOp_indexAddr_sl _ _ _ _ _ _ _ _ rfl Try.underlying24 Try.sizeOf2 hc5.1 (by rw [intsD_length]; exact hc5.2) rfl rfl) ?_
    refine AQ_q 24 _ rfl rfl rfl (QOp_load_pv _ _ _ _ _ rfl Try.isAgg2 rfl (intsD_get _ _ 0 (by omega))) ?_
    refine AQ_q 25 _ rfl rfl rfl (QOp_neq _ _ _ _ _ _ _ rfl rfl rfl) ?_
    refine AQ_nil ?_
    refine kI h rfl (fun h _ => ?_) (fun h _ => ?_)
    ·refine kR ?_
     refine kN 1 rfl ?_
     refine ACode_ret ?_
     cases h
     have h := hks7
     cases h
     exact ⟨_, _, fun r a w h => ⟨r, h⟩, _, _, [], _, (.cons (ResV_tmp _ _ rfl) .nil), rfl, rfl, rfl, rfl, rfl⟩
    refine ACode_skip ?_
    refine (ACode_region ?_)
    refine kM 1 rfl ?_
    refine AOps_q 16 _ rfl rfl rfl (QOp_add _ _ _ _ _ _ _ rfl rfl rfl) ?_
    refine kN 1 rfl ?_
    exact ⟨k0, _, _, Nat.lt_succ_self _, Weak_keep 0 hm [0, 1, 5] [] _ _ rfl rfl rfl, _, rfl, rfl, h⟩
   refine ACode_exit ?_
   cases h
   exact ⟨_, rfl, Weak_keep 0 hm [] [] _ _ rfl rfl rfl⟩
 refine kR ?_
 refine kN 1 rfl ?_
 refine ACode_ret ?_
 cases h
 exact ⟨_, _, fun r a w h => ⟨r, h⟩, _, _, [], _, (.cons (ResV_tmp _ _ rfl) .nil), rfl, rfl, rfl, rfl, rfl⟩

-- loop.example/g01362/laws.rows5
def laws_rows5_l0 (k : Nat) (p0 : List (List Int)) (p1 : List (List Int)) : Nat → Int → Option (Sum (Unit) (Bool))
 | 0, _ => none
 | k0 + 1, x2 => (if decide (x2 < (p0.length : Int)) then (if 0 ≤ x2 ∧ x2 < (p0.length : Int) then (if 0 ≤ x2 ∧ x2 < (p1.length : Int) then (laws_likeInts k (p0.getD x2.toNat []) (p1.getD x2.toNat [])).bind fun r6 => (if !r6 then some (.inr false) else laws_rows5_l0 k p0 p1 k0 (w64 (x2 + 1))) else none) else none) else some (.inl ()))
def laws_rows5 (k : Nat) (p0 : List (List Int)) (p1 : List (List Int)) : Option (Bool) :=
 (if !decide ((p0.length : Int) = (p1.length : Int)) then some false else (laws_rows5_l0 k p0 p1 k 0 : Option (Sum (Unit) (Bool))).bind fun os8 => (match os8 with | .inl s8 => some true | .inr rr => some rr))
set_option maxRecDepth 100000 in
theorem laws_rows5_ac (k : Nat) (p0 : List (List Int)) (p1 : List (List Int)) (r : Bool) (h : laws_rows5 k p0 p1 = some r) : AC Try.prog 18 [.d (.sl none (rowsD p0)), .d (.sl none (rowsD p1))] [] (fun res H' => res = [bV r] ∧ H' = []) := by
 refine AC_of_body true Try.func18 rfl Try.ntmps18 (rvs := [.tmp 4]) rfl rfl (fun G hG => ?_)
 have hm : G.H.length = 0 := by rw [hG]; rfl
 have hz : zeroG G.H = true := by rw [hG]; rfl
 unfold laws_rows5 at h
 refine kR ?_
 refine kN 1 rfl ?_
 refine ACode_seq ?_
 refine kR ?_
 refine kM 1 rfl ?_
 refine AOps_q 7 _ rfl rfl rfl (QOp_len_sl _ _ _ _ _ _ _ (rowsD_length _) rfl rfl rfl rfl Try.underlying41 rfl) ?_
 refine kM 1 rfl ?_
 refine AOps_q 9 _ rfl rfl rfl (QOp_len_sl _ _ _ _ _ _ _ (rowsD_length _) rfl rfl rfl rfl Try.underlying41 rfl) ?_
 refine AOps_q 10 _ rfl rfl rfl (QOp_neq _ _ _ _ _ _ _ rfl rfl rfl) ?_
 refine AOps_nil ?_
 refine kI h rfl (fun h _ => ?_) (fun h _ => ?_)
 ·refine kR ?_
  refine kN 1 rfl ?_
  refine ACode_ret ?_
  cases h
  exact ⟨_, _, fun r a w h => ⟨r, h⟩, _, _, [], _, (.cons (ResV_tmp _ _ rfl) .nil), rfl, rfl, rfl, rfl, rfl⟩
 refine ACode_skip ?_
 refine kO (fun s8 => []) (fun s8 => []) h (fun os8 h hks8 => ?_) (fun s8 h => ?_)
 ·refine kR ?_
  refine kN 1 rfl ?_
  refine ACode_block ?_
  refine ACode_loopW (fun k0 E H => ∃ (x2 : Int), E = [(0, .d (.sl none (rowsD p0))), (1, .d (.sl none (rowsD p1))), (5, iV x2)] ∧ H = [] ∧ laws_rows5_l0 k p0 p1 k0 x2 = some os8) k _ _ (Weak_keep 0 hm [0, 1, 5] [] _ _ rfl rfl rfl) ⟨_, rfl, rfl, h⟩ ?_
  clear h
  rintro k0 E H ⟨x2, rfl, rfl, h⟩
  cases k0 with
  | zero => cases (show (none : Option (Sum (Unit) (Bool))) = some _ from h)
  | succ k0 =>
   rw [laws_rows5_l0] at h
   refine ACode_seq ?_
   refine kR ?_
   refine kM 2 rfl ?_
   refine AOps_q 13 _ rfl rfl rfl (QOp_len_sl _ _ _ _ _ _ _ (rowsD_length _) rfl rfl rfl rfl Try.underlying41 rfl) ?_
   refine AOps_q 14 _ rfl rfl rfl (QOp_lss _ _ _ _ _ _ _ rfl rfl rfl) ?_
   refine AOps_nil ?_
   refine kI h rfl (fun h _ => ?_) (fun h _ => ?_)
   ·refine ACode_skip ?_
    refine ACode_seq ?_
    refine ACode_block ?_
    refine ACode_seq (ACode_quiet mixed (by kernel_rfl) ?_)
    refine kQ 2 rfl ?_
    obtain ⟨hc4, h⟩ := guardO h
    refine AQ_q 19 _ rfl rfl rfl (QOp_indexAddr_sl _ _ _ _ _ _ _ _ rfl Try.underlying41 Try.sizeOf24 hc4.1 (by rw [rowsD_length]; exact hc4.2) rfl rfl) ?_
    refine AQ_q 20 _ rfl rfl rfl (QOp_load_pv _ _ _ _ _ rfl Try.isAgg24 rfl (rowsD_get _ _ [] (by omega))) ?_
    refine kQ 2 rfl ?_
    obtain ⟨hc5, h⟩ := guardO h
    refine AQ_q 23 _ rfl rfl rfl (QOp_indexAddr_sl _ _ _ _ _ _ _ _ rfl Try.underlying41 Try.sizeOf24 hc5.1 (by rw [rowsD_length]; exact hc5.2) rfl rfl) ?_
    refine AQ_q 24 _ rfl rfl rfl (QOp_load_pv _ _ _ _ _ rfl Try.isAgg24 rfl (rowsD_get _ _ [] (by omega))) ?_
    obtain ⟨r6, hr6, h⟩ := bindO h
    refine AQ_call 25 _ _ _ _ _ _ _ _ _ rfl rfl rfl rfl rfl rfl rfl Try.call25 rfl rfl rfl (laws_likeInts_ac k (p0.getD x2.toNat []) (p1.getD x2.toNat []) _ hr6) ?_
    refine AQ_q 26 _ rfl rfl rfl (QOp_not _ _ _ rfl rfl) ?_
    refine AQ_nil ?_
    refine kI h rfl (fun h _ => ?_) (fun h _ => ?_)
    ·refine kR ?_
     refine kN 1 rfl ?_
     refine ACode_ret ?_
     cases h
     have h := hks8
     cases h
     exact ⟨_, _, fun r a w h => ⟨r, h⟩, _, _, [], _, (.cons (ResV_tmp _ _ rfl) .nil), rfl, rfl, rfl, rfl, rfl⟩
    refine ACode_skip ?_
    refine (ACode_region ?_)
    refine kM 1 rfl ?_
    refine AOps_q 16 _ rfl rfl rfl (QOp_add _ _ _ _ _ _ _ rfl rfl rfl) ?_
    refine kN 1 rfl ?_
    exact ⟨k0, _, _, Nat.lt_succ_self _, Weak_keep 0 hm [0, 1, 5] [] _ _ rfl rfl rfl, _, rfl, rfl, h⟩
   refine ACode_exit ?_
   cases h
   exact ⟨_, rfl, Weak_keep 0 hm [] [] _ _ rfl rfl rfl⟩
 refine kR ?_
 refine kN 1 rfl ?_
 refine ACode_ret ?_
 cases h
 exact ⟨_, _, fun r a w h => ⟨r, h⟩, _, _, [], _, (.cons (ResV_tmp _ _ rfl) .nil), rfl, rfl, rfl, rfl, rfl⟩

-- (*loop.example/g01362/impl.Colouring).hasTwo
def impl_Colouring_hasTwo (p0 : Col) (p1 : Int) (p2 : Int) : Bool :=
 letO (if (impl_Colouring_has p0 p1) then (if (impl_Colouring_has p0 p2) then !decide (p1 = p2) else false) else false) fun (s5 : Bool) => s5
set_option maxRecDepth 100000 in
theorem impl_Colouring_hasTwo_ac (p0 : Col) (p1 : Int) (p2 : Int) : AC Try.prog 70 [.d (.pv (colD p0) 0), iV p1, iV p2] [] (fun res H' => res = [bV (impl_Colouring_hasTwo p0 p1 p2)] ∧ H' = []) := by
 refine AC_of_body true Try.func70 rfl Try.ntmps70 (rvs := [.tmp 6]) rfl rfl (fun G hG => ?_)
 have hm : G.H.length = 0 := by rw [hG]; rfl
 have hz : zeroG G.H = true := by rw [hG]; rfl
 obtain ⟨r, h⟩ : ∃ r, impl_Colouring_hasTwo p0 p1 p2 = r := ⟨_, rfl⟩
 rw [h]
 unfold impl_Colouring_hasTwo at h
 refine kR ?_
 refine kN 1 rfl ?_
 refine kL (fun s5 => [(6, bV s5)]) (fun s5 => []) h (fun s5 h => ?_) (fun s5 h => ?_)
 ·refine (ACode_region ?_)
  refine kM 2 rfl ?_
  refine kC [] 9 (bV (impl_Colouring_has p0 p1)) [] rfl Try.call49 rfl rfl (impl_Colouring_has_ac p0 p1) rfl ?_
  refine kM 1 rfl ?_
  refine AOps_case 10 _ rfl (fun hb2 => ?_) (fun hb2 => ?_)
  ·have h := iteT hb2 h
   refine kM 2 rfl ?_
   refine kC [] 13 (bV (impl_Colouring_has p0 p2)) [] rfl Try.call49 rfl rfl (impl_Colouring_has_ac p0 p2) rfl ?_
   refine kM 2 rfl ?_
   refine AOps_case 15 _ rfl (fun hb4 => ?_) (fun hb4 => ?_)
   ·have h := iteT hb4 h
    refine kM 2 rfl ?_
    refine AOps_q 18 _ rfl rfl rfl (QOp_neq _ _ _ _ _ _ _ rfl rfl rfl) ?_
    refine kN 2 rfl ?_
    cases h
    exact Weak_keep 0 hm [6] [] _ _ rfl rfl rfl
   have h := iteF hb4 h
   refine AOps_skip 16 rfl rfl rfl ?_
   refine AOps_skip 17 rfl rfl rfl ?_
   refine AOps_skip 18 rfl rfl rfl ?_
   refine kN 2 rfl ?_
   cases h
   exact Weak_keep 0 hm [6] [] _ _ rfl rfl rfl
  have h := iteF hb2 h
  refine AOps_skip 11 rfl rfl rfl ?_
  refine AOps_skip 12 rfl rfl rfl ?_
  refine AOps_skip 13 rfl rfl rfl ?_
  refine kM 2 rfl ?_
  refine AOps_skip 16 rfl rfl rfl ?_
  refine AOps_skip 17 rfl rfl rfl ?_
  refine AOps_skip 18 rfl rfl rfl ?_
  refine kN 2 rfl ?_
  cases h
  exact Weak_keep 0 hm [6] [] _ _ rfl rfl rfl
 refine ACode_ret ?_
 cases h
 exact ⟨_, _, fun r a w h => ⟨r, h⟩, _, _, [], _, (.cons (ResV_tmp _ _ rfl) .nil), rfl, rfl, rfl, rfl, rfl⟩

-- (*loop.example/g01362/impl.Colouring).hasColour
def impl_Colouring_hasColour (p0 : Col) (p1 : Int) : Bool :=
 (impl_in p1 0 (w64 (p0.k - 1)))
set_option maxRecDepth 100000 in
theorem impl_Colouring_hasColour_ac (p0 : Col) (p1 : Int) : AC Try.prog 71 [.d (.pv (colD p0) 0), iV p1] [] (fun res H' => res = [bV (impl_Colouring_hasColour p0 p1)] ∧ H' = []) := by
 refine AC_of_body true Try.func71 rfl Try.ntmps71 (rvs := [.tmp 4]) rfl rfl (fun G hG => ?_)
 have hm : G.H.length = 0 := by rw [hG]; rfl
 have hz : zeroG G.H = true := by rw [hG]; rfl
 obtain ⟨r, h⟩ : ∃ r, impl_Colouring_hasColour p0 p1 = r := ⟨_, rfl⟩
 rw [h]
 unfold impl_Colouring_hasColour at h
 refine kR ?_
 refine kN 1 rfl ?_
 refine kR ?_
 refine kM 2 rfl ?_
 refine AOps_q 7 _ rfl rfl rfl (QOp_nilCheck_pv _ _ _ rfl rfl) ?_
 refine AOps_q 8 _ rfl rfl rfl (QOp_fieldAddr_pv _ _ _ _ _ 1 _ _ rfl Try.underlying29 rfl _ Try.sizeOf2 rfl rfl) ?_
 refine AOps_q 9 _ rfl rfl rfl (QOp_load_pv _ _ _ _ _ rfl Try.isAgg2 rfl rfl) ?_
 refine AOps_q 10 _ rfl rfl rfl (QOp_sub _ _ _ _ _ _ _ rfl rfl rfl) ?_
 refine kC [] 11 (bV (impl_in p1 0 (w64 (p0.k - 1)))) [] rfl Try.call37 rfl rfl (impl_in_ac p1 0 (w64 (p0.k - 1))) rfl ?_
 refine kN 1 rfl ?_
 refine ACode_ret ?_
 cases h
 exact ⟨_, _, fun r a w h => ⟨r, h⟩, _, _, [], _, (.cons (ResV_tmp _ _ rfl) .nil), rfl, rfl, rfl, rfl, rfl⟩

-- loop.example/g01362/impl.ChangeEdge$1
def impl_ChangeEdge_c1 (p0 : Col) (p1 : Int) (p2 : Int) (p3 : Int) : Bool :=
 letO (if (impl_Colouring_hasTwo p0 p1 p2) then (impl_Colouring_hasColour p0 p3) else false) fun (s4 : Bool) => s4
set_option maxRecDepth 100000 in
theorem impl_ChangeEdge_c1_ac (p0 : Col) (p1 : Int) (p2 : Int) (p3 : Int) : AC Try.prog 69 [.d (.pv (colD p0) 0), .d (.pv ([iD p1]) 0), .d (.pv ([iD p2]) 0), .d (.pv ([iD p3]) 0)] [] (fun res H' => res = [bV (impl_ChangeEdge_c1 p0 p1 p2 p3)] ∧ H' = []) := by
 refine AC_of_body true Try.func69 rfl Try.ntmps69 (rvs := [.tmp 4]) rfl rfl (fun G hG => ?_)
 have hm : G.H.length = 0 := by rw [hG]; rfl
 have hz : zeroG G.H = true := by rw [hG]; rfl
 obtain ⟨r, h⟩ : ∃ r, impl_ChangeEdge_c1 p0 p1 p2 p3 = r := ⟨_, rfl⟩
 rw [h]
 unfold impl_ChangeEdge_c1 at h
 refine kR ?_
 refine kN 1 rfl ?_
 refine kL (fun s4 => [(4, bV s4)]) (fun s4 => []) h (fun s4 h => ?_) (fun s4 h => ?_)
 ·refine (ACode_region ?_)
  refine AOps_q 5 _ rfl rfl rfl (QOp_load_pv _ _ _ _ _ rfl Try.isAgg2 rfl rfl) ?_
  refine AOps_q 6 _ rfl rfl rfl (QOp_load_pv _ _ _ _ _ rfl Try.isAgg2 rfl rfl) ?_
  refine kC [] 7 (bV (impl_Colouring_hasTwo p0 p1 p2)) [] rfl Try.call70 rfl rfl (impl_Colouring_hasTwo_ac p0 p1 p2) rfl ?_
  refine kM 1 rfl ?_
  refine AOps_case 8 _ rfl (fun hb2 => ?_) (fun hb2 => ?_)
  ·have h := iteT hb2 h
   refine AOps_q 9 _ rfl rfl rfl (QOp_load_pv _ _ _ _ _ rfl Try.isAgg2 rfl rfl) ?_
   refine kC [] 10 (bV (impl_Colouring_hasColour p0 p3)) [] rfl Try.call71 rfl rfl (impl_Colouring_hasColour_ac p0 p3) rfl ?_
   refine kN 2 rfl ?_
   cases h
   exact Weak_keep 0 hm [4] [] _ _ rfl rfl rfl
  have h := iteF hb2 h
  refine AOps_skip 9 rfl rfl rfl ?_
  refine AOps_skip 10 rfl rfl rfl ?_
  refine kN 2 rfl ?_
  cases h
  exact Weak_keep 0 hm [4] [] _ _ rfl rfl rfl
 refine ACode_ret ?_
 cases h
 exact ⟨_, _, fun r a w h => ⟨r, h⟩, _, _, [], _, (.cons (ResV_tmp _ _ rfl) .nil), rfl, rfl, rfl, rfl, rfl⟩

-- loop.example/g01362/impl.ChangeEdge
def impl_ChangeEdge (k : Nat) (p0 : Col) (p1 : Int) (p2 : Int) (p3 : Int) : Option (Col × Int) :=
 (impl_Colouring_code k p0 (some (impl_ChangeEdge_c1 p0 p1 p2 p3))).bind fun r1 => (if !decide (r1 = 0) then some ((⟨0, 0, B136.zero⟩ : Col), r1) else (impl_Colouring_put p0 p1 p2 p3).bind fun r3 => some (r3, 0))
set_option maxRecDepth 100000 in
theorem impl_ChangeEdge_ac (k : Nat) (p0 : Col) (p1 : Int) (p2 : Int) (p3 : Int) (r : Col × Int) (h : impl_ChangeEdge k p0 p1 p2 p3 = some r) : AC Try.prog 19 [.d (.agg (colD p0)), iV p1, iV p2, iV p3] [] (fun res H' => res = [.d (.agg (colD r.1)), iV r.2] ∧ H' = []) := by
 refine AC_of_body true Try.func19 rfl Try.ntmps19 (rvs := [.cell 8 29, .tmp 9]) rfl rfl (fun G hG => ?_)
 have hm : G.H.length = 0 := by rw [hG]; rfl
 have hz : zeroG G.H = true := by rw [hG]; rfl
 unfold impl_ChangeEdge at h
 refine kR ?_
 refine AOps_boxM 4 _ _ (.agg (colD p0)) (colD p0) rfl (colD_one _) rfl rfl rfl rfl rfl ?_
 refine AOps_boxI 5 _ _ (iD p1) _ rfl (fun c hc => by cases hc with | head => rfl | tail _ h => cases h) rfl rfl rfl rfl rfl ?_
 refine AOps_boxI 6 _ _ (iD p2) _ rfl (fun c hc => by cases hc with | head => rfl | tail _ h => cases h) rfl rfl rfl rfl rfl ?_
 refine AOps_boxI 7 _ _ (iD p3) _ rfl (fun c hc => by cases hc with | head => rfl | tail _ h => cases h) rfl rfl rfl rfl rfl ?_
 refine AOps_alloc 8 _ _ (colD Col.zero) (zero_of Try.typeInfo29 rfl) (by rfl) rfl rfl rfl rfl ?_
 refine kN 1 rfl ?_
 refine ACode_seq ?_
 refine kR ?_
 refine AOps_q 11 _ rfl rfl rfl (QOp_makeFunc _ _ _ rfl rfl) ?_
 obtain ⟨r1, hr1, h⟩ := bindO h
 refine AOps_callL [] 12 _ _ _ _ _ _ _ _ _ _ rfl rfl rfl rfl rfl rfl rfl Try.call47 rfl (nodupB_sound _ rfl) rfl rfl rfl (impl_Colouring_code_ac k p0 (some (impl_ChangeEdge_c1 p0 p1 p2 p3)) 69 ([.pv (colD p0) 0, .pv ([iD p1]) 0, .pv ([iD p2]) 0, .pv ([iD p3]) 0]) Try.call69 (fun r h => by cases h; exact impl_ChangeEdge_c1_ac p0 p1 p2 p3) _ hr1) ?_
 rintro _ _ ⟨rfl, rfl⟩
 refine ⟨(fun _ h => nomatch h), (allc (flat_s _) (fun _ h => nomatch h)), AOps_as 12 (v' := iV r1) (H' := [.box (colD p0), .box (colD Col.zero)]) rfl rfl ?_⟩
 refine kN 1 rfl ?_
 refine kR ?_
 refine kM 1 rfl ?_
 refine AOps_q 14 _ rfl rfl rfl (QOp_neq _ _ _ _ _ _ _ rfl rfl rfl) ?_
 refine AOps_nil ?_
 refine kI h rfl (fun h _ => ?_) (fun h _ => ?_)
 ·refine kR ?_
  refine AOps_q 15 _ rfl rfl rfl (QOp_build _ _ [] [] [] _ (colD Col.zero) (colD (⟨0, 0, B136.zero⟩ : Col)) [(0, 1), (1, 1), (2, 136)] rfl rfl Try.underlying29 (zero_of Try.typeInfo29 rfl) (fun w => by simp [Try.sizeOf2, Try.sizeOf2, Try.sizeOf27]) rfl (by rfl) (by rfl) (fun _ h => nomatch h)) ?_
  refine kM 1 rfl ?_
  refine AOps_store _ _ _ _ _ _ (colD _) _ _ rfl rfl rfl rfl rfl rfl rfl (colD_one _) (by rw [colD_length]; exact Try.sizeOf29) (by rw [colD_length, colD_length]; decide) (colD_whole _ _) ?_
  refine kN 1 rfl ?_
  refine ACode_ret ?_
  cases h
  exact ⟨_, _, fun r a w h => ⟨r, h⟩, _, _, [], _, (.cons (ResV_agg _ _ _ _ _ _ Try.isAgg29 Try.sizeOf29 rfl rfl (colD_take _) (colD_length _)) (.cons (ResV_tmp _ _ rfl) .nil)), rfl, rfl, rfl, rfl, rfl⟩
 refine ACode_skip ?_
 refine kR ?_
 refine AOps_q 17 _ rfl rfl rfl (QOp_load_pv _ _ _ _ _ rfl Try.isAgg2 rfl rfl) ?_
 refine AOps_q 18 _ rfl rfl rfl (QOp_load_pv _ _ _ _ _ rfl Try.isAgg2 rfl rfl) ?_
 refine AOps_q 19 _ rfl rfl rfl (QOp_load_pv _ _ _ _ _ rfl Try.isAgg2 rfl rfl) ?_
 obtain ⟨r3, hr3, h⟩ := bindO h
 refine kC [0] 20 (.tup []) [.box (colD r3), .box (colD Col.zero)] rfl Try.call72 rfl rfl (impl_Colouring_put_ac p0 p1 p2 p3 _ hr3) rfl ?_
 refine AOps_nil ?_
 refine kR ?_
 refine AOps_q 21 _ rfl rfl rfl (QOp_loadN_ptr _ _ _ _ _ _ _ rfl Try.isAgg29 Try.sizeOf29 rfl rfl (colD_all _) (colD_length _)) ?_
 refine AOps_store _ _ _ _ _ _ (colD _) _ _ rfl rfl rfl rfl rfl rfl rfl (colD_one _) (by rw [colD_length]; exact Try.sizeOf29) (by rw [colD_length, colD_length]; decide) (colD_whole _ _) ?_
 refine kN 1 rfl ?_
 refine ACode_ret ?_
 cases h
 exact ⟨_, _, fun r a w h => ⟨r, h⟩, _, _, [], _, (.cons (ResV_agg _ _ _ _ _ _ Try.isAgg29 Try.sizeOf29 rfl rfl (colD_take _) (colD_length _)) (.cons (ResV_tmp _ _ rfl) .nil)), rfl, rfl, rfl, rfl, rfl⟩

end Go.Proofs.Ytfnbhfobgimnjaa
