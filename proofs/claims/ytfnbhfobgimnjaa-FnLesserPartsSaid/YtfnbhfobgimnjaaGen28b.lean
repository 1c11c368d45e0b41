/- Plain functions of the program and that the program computes them: printed by the own tool gen.py. No conditions. -/
import Derived.Test.YtfnbhfobgimnjaaGen28a
set_option linter.unusedVariables false
set_option linter.unusedSimpArgs false
namespace Go.Proofs.Ytfnbhfobgimnjaa
open Go Go.RowKit Ab

-- loop.example/g01362/spec.LesserPart
def spec_LesserPart_l0 : Nat → Int → (List Int) → Option (List Int)
 | 0, _, _ => none
 | k0 + 1, x5, x6 => (if decide (x5 < (x6.length : Int)) then (if 0 ≤ x5 ∧ x5 < (x6.length : Int) then spec_LesserPart_l0 k0 (w64 (x5 + 1)) (x6.set x5.toNat (-1)) else none) else some x6)
def spec_LesserPart_l4 (k : Nat) (p0 : Col) (x16 : Int) (x18 : Int) (x21 : List Int) (x26 : Int) : Nat → Int → (List Int) → (List Int) → Option (List Int × List Int)
 | 0, _, _, _ => none
 | k4 + 1, x36, x37, x38 => (if decide (x36 < p0.k) then ((spec_l01Around k p0 x18 x36).bind fun r40 => (spec_l10Size k p0 x37 (bAnd .i64 (bShl .i64 (bShr .i64 (x21.getD x26.toNat 0) (IntKind.u64.wrap (w64 (x18 + 1)))) (IntKind.u64.wrap (w64 (x18 + 1)))) r40)).bind fun r41 => (if decide (x16 ≤ w64 (1 + r41.1)) then (if x38.length + ([bAnd .i64 (bShl .i64 (bShr .i64 (x21.getD x26.toNat 0) (IntKind.u64.wrap (w64 (x18 + 1)))) (IntKind.u64.wrap (w64 (x18 + 1)))) r40]).length ≤ 1099511627776 then some (r41.2, (x38 ++ ([bAnd .i64 (bShl .i64 (bShr .i64 (x21.getD x26.toNat 0) (IntKind.u64.wrap (w64 (x18 + 1)))) (IntKind.u64.wrap (w64 (x18 + 1)))) r40]))) else none) else some (r41.2, x38)) : Option (List Int × List Int)).bind fun s44 => spec_LesserPart_l4 k p0 x16 x18 x21 x26 k4 (w64 (x36 + 1)) s44.1 s44.2 else some (x37, x38))
def spec_LesserPart_l3 (k : Nat) (p0 : Col) (x16 : Int) (x18 : Int) (x21 : List Int) : Nat → Int → (List Int) → (List Int) → Option (List Int × List Int)
 | 0, _, _, _ => none
 | k3 + 1, x26, x27, x28 => (if decide (x26 < (x21.length : Int)) then ((if 0 ≤ x26 ∧ x26 < (x21.length : Int) then (if 0 ≤ IntKind.u64.wrap x18 then (if decide (bAnd .i64 (bShr .i64 (x21.getD x26.toNat 0) (IntKind.u64.wrap x18)) 1 = 0) then some (x27, x28) else (if 0 ≤ x26 ∧ x26 < (x21.length : Int) then (if 0 ≤ IntKind.u64.wrap (w64 (x18 + 1)) then (if 0 ≤ IntKind.u64.wrap (w64 (x18 + 1)) then spec_LesserPart_l4 k p0 x16 x18 x21 x26 k 0 x27 x28 else none) else none) else none)) else none) else none) : Option (List Int × List Int)).bind fun s45 => spec_LesserPart_l3 k p0 x16 x18 x21 k3 (w64 (x26 + 1)) s45.1 s45.2 else some (x27, x28))
def spec_LesserPart_l2 (k : Nat) (p0 : Col) : Nat → Int → Bool → Int → (List Int) → (List Int) → (List Int) → Option (Int × List Int × List Int × List Int)
 | 0, _, _, _, _, _, _ => none
 | k2 + 1, x16, x17, x18, x19, x20, x21 => (letO (if decide (x18 < p0.p) then !x17 else false) fun (s23 : Bool) => (if s23 then some (.inl ()) else (some (x16, x19, x20, x21)).bind fun rr => some (.inr rr)) : Option (Sum (Unit) (Int × List Int × List Int × List Int))).bind fun os25 => (match os25 with | .inl s25 => ((spec_LesserPart_l3 k p0 x16 x18 x21 k 0 x19 ([] : List Int) : Option (List Int × List Int)).bind fun s46 => (if decide (0 < (s46.2.length : Int)) then (if x20.length + ([x18]).length ≤ 1099511627776 then (spec_l10Each k s46.2).bind fun r49 => some (w64 (x16 - 1), true, s46.1, (x20 ++ ([x18])), r49) else none) else some (x16, x17, s46.1, x20, x21)) : Option (Int × Bool × List Int × List Int × List Int)).bind fun s50 => spec_LesserPart_l2 k p0 k2 s50.1 s50.2.1 (w64 (x18 + 1)) s50.2.2.1 s50.2.2.2.1 s50.2.2.2.2 | .inr rr => some rr)
def spec_LesserPart_l1 (k : Nat) (p0 : Col) : Nat → Int → (List Int) → (List Int) → (List Int) → Option (List Int)
 | 0, _, _, _, _ => none
 | k1 + 1, x11, x12, x13, x14 => (if decide (0 < x11) then (spec_LesserPart_l2 k p0 k x11 false 0 x12 x13 x14 : Option (Int × List Int × List Int × List Int)).bind fun s51 => spec_LesserPart_l1 k p0 k1 s51.1 s51.2.1 s51.2.2.1 s51.2.2.2 else some x13)
def spec_LesserPart (k : Nat) (p0 : Col) : Option (List Int × Int) :=
 (spec_l01Is k p0).bind fun r1 => (if !r1 then some ([], 1) else (if 0 ≤ IntKind.u64.wrap p0.p then (if 0 ≤ w64 ((w64 ((bShl .i64 1 (IntKind.u64.wrap p0.p)) - 1)) + 1) ∧ w64 ((w64 ((bShl .i64 1 (IntKind.u64.wrap p0.p)) - 1)) + 1) ≤ w64 ((w64 ((bShl .i64 1 (IntKind.u64.wrap p0.p)) - 1)) + 1) ∧ w64 ((w64 ((bShl .i64 1 (IntKind.u64.wrap p0.p)) - 1)) + 1) ≤ 1099511627776 then (spec_LesserPart_l0 k 0 (List.replicate (w64 ((w64 ((bShl .i64 1 (IntKind.u64.wrap p0.p)) - 1)) + 1)).toNat (0 : Int)) : Option (List Int)).bind fun s9 => (spec_l10Size k p0 s9 (w64 ((bShl .i64 1 (IntKind.u64.wrap p0.p)) - 1))).bind fun r10 => (spec_LesserPart_l1 k p0 k r10.1 r10.2 ([] : List Int) ([w64 ((bShl .i64 1 (IntKind.u64.wrap p0.p)) - 1)]) : Option (List Int)).bind fun s52 => some (s52, 0) else none) else none))
set_option maxRecDepth 100000 in
theorem spec_LesserPart_ac (k : Nat) (p0 : Col) (r : List Int × Int) (h : spec_LesserPart k p0 = some r) : AC Try.prog 24 [.d (.agg (colD p0))] [] (fun res H' => res = [.d (.sl none (intsD r.1)), iV r.2] ∧ H' = []) := by
 refine AC_of_body true Try.func24 rfl Try.ntmps24 (rvs := [.tmp 2, .tmp 3]) rfl rfl (fun G hG => ?_)
 have hm : G.H.length = 0 := by rw [hG]; rfl
 have hz : zeroG G.H = true := by rw [hG]; rfl
 unfold spec_LesserPart at h
 refine kR ?_
 refine AOps_boxI 1 _ _ (.agg (colD p0)) (colD p0) rfl (colD_one _) rfl rfl rfl rfl rfl ?_
 refine kN 2 rfl ?_
 refine ACode_seq ?_
 refine kR ?_
 refine AOps_q 17 _ rfl rfl rfl (QOp_loadN_pv _ _ _ _ _ _ rfl Try.isAgg29 Try.sizeOf29 rfl (colD_all _) (colD_length _)) ?_
 obtain ⟨r1, hr1, h⟩ := bindO h
 refine kC [] 18 (bV r1) [] rfl Try.call81 rfl rfl (spec_l01Is_ac k p0 _ hr1) rfl ?_
 refine AOps_q 19 _ rfl rfl rfl (QOp_not _ _ _ rfl rfl) ?_
 refine AOps_nil ?_
 refine kI h rfl (fun h _ => ?_) (fun h _ => ?_)
 ·refine kR ?_
  refine kN 2 rfl ?_
  refine ACode_ret ?_
  cases h
  exact ⟨_, _, fun r a w h => ⟨r, h⟩, _, _, [], _, (.cons (ResV_tmp _ _ rfl) (.cons (ResV_tmp _ _ rfl) .nil)), rfl, rfl, rfl, rfl, rfl⟩
 refine ACode_skip ?_
 refine kR ?_
 refine AOps_q 20 _ rfl rfl rfl (QOp_fieldAddr_pv _ _ _ _ _ 0 _ _ rfl Try.underlying29 rfl _ Try.sizeOf2 rfl rfl) ?_
 refine AOps_q 21 _ rfl rfl rfl (QOp_load_pv _ _ _ _ _ rfl Try.isAgg2 rfl rfl) ?_
 refine AOps_q 22 _ rfl rfl rfl (QOp_conv _ _ _ _ _ _ rfl rfl Try.underlying93 rfl) ?_
 obtain ⟨hc3, h⟩ := guardO h
 refine AOps_q 23 _ rfl rfl rfl (QOp_shl _ _ _ _ _ _ _ _ hc3 rfl rfl rfl) ?_
 refine AOps_q 24 _ rfl rfl rfl (QOp_sub _ _ _ _ _ _ _ rfl rfl rfl) ?_
 refine kN 1 rfl ?_
 refine kR ?_
 refine kM 1 rfl ?_
 refine AOps_q 26 _ rfl rfl rfl (QOp_add _ _ _ _ _ _ _ rfl rfl rfl) ?_
 obtain ⟨hc4, h⟩ := guardO h
 refine AOps_makeSliceG intsD iD 0 (intsD_rep · _) 27 _ _ _ _ _ _ (w64 ((w64 ((bShl .i64 1 (IntKind.u64.wrap p0.p)) - 1)) + 1)) (w64 ((w64 ((bShl .i64 1 (IntKind.u64.wrap p0.p)) - 1)) + 1)) _ (.int .i64 0) rfl rfl rfl rfl rfl rfl Try.underlying24 Try.type2 rfl rfl (by decide) rfl rfl hc4.1 hc4.2.1 hc4.2.2 ?_
 refine kN 1 rfl ?_
 refine kB (fun s9 => [(1, .d (.pv (colD p0) 0)), (4, iV (w64 ((bShl .i64 1 (IntKind.u64.wrap p0.p)) - 1))), (5, .vec 0 0)]) (fun s9 => [.vec 0 (intsD s9)]) h (fun s9 h => ?_) (fun s9 h => ?_)
 ·refine kR ?_
  refine kN 1 rfl ?_
  refine ACode_block ?_
  refine ACode_loopW (fun k0 E H => ∃ (x5 : Int) (x6 : List Int), E = [(1, .d (.pv (colD p0) 0)), (4, iV (w64 ((bShl .i64 1 (IntKind.u64.wrap p0.p)) - 1))), (5, .vec 0 0), (6, iV x5)] ∧ H = [.vec 0 (intsD x6)] ∧ spec_LesserPart_l0 k0 x5 x6 = some s9) k _ _ (Weak_keep 0 hm [1, 4, 5, 6] [0] _ _ rfl rfl rfl) ⟨_, _, rfl, rfl, h⟩ ?_
  clear h
  rintro k0 E H ⟨x5, x6, rfl, rfl, h⟩
  cases k0 with
  | zero => cases (show (none : Option (List Int)) = some _ from h)
  | succ k0 =>
   rw [spec_LesserPart_l0] at h
   refine ACode_seq ?_
   refine kR ?_
   refine kM 2 rfl ?_
   refine AOps_q 30 _ rfl rfl rfl (QOp_len_vec _ _ _ _ _ _ _ _ (intsD_length _) rfl rfl rfl rfl Try.underlying24 rfl rfl) ?_
   refine AOps_q 31 _ rfl rfl rfl (QOp_lss _ _ _ _ _ _ _ rfl rfl rfl) ?_
   refine AOps_nil ?_
   refine kI h rfl (fun h _ => ?_) (fun h _ => ?_)
   ·refine ACode_skip ?_
    refine ACode_seq ?_
    refine ACode_block ?_
    refine (ACode_region ?_)
    refine kM 2 rfl ?_
    obtain ⟨hc8, h⟩ := guardO h
    refine AOps_q 36 _ rfl rfl rfl (QOp_indexAddr_vec _ _ _ _ _ _ _ _ _ rfl Try.underlying24 Try.sizeOf2 hc8.1 (by rw [intsD_length]; exact hc8.2) rfl rfl rfl) ?_
    refine AOps_store_eptr _ _ _ _ _ _ (intsD x6) _ rfl rfl rfl rfl rfl rfl rfl Try.sizeOf2 (by rw [intsD_length]; omega) ?_
    rw [intsD_set]
    refine AOps_nil ?_
    refine (ACode_region ?_)
    refine kM 1 rfl ?_
    refine AOps_q 33 _ rfl rfl rfl (QOp_add _ _ _ _ _ _ _ rfl rfl rfl) ?_
    refine kN 1 rfl ?_
    exact ⟨k0, _, _, Nat.lt_succ_self _, Weak_keep 0 hm [1, 4, 5, 6] [0] _ _ rfl rfl rfl, _, _, rfl, rfl, h⟩
   refine ACode_exit ?_
   cases h
   exact Weak_keep 0 hm [1, 4, 5] [0] _ _ rfl rfl rfl
 refine kR ?_
 refine AOps_q 37 _ rfl rfl rfl (QOp_loadN_pv _ _ _ _ _ _ rfl Try.isAgg29 Try.sizeOf29 rfl (colD_all _) (colD_length _)) ?_
 refine kM 2 rfl ?_
 obtain ⟨r10, hr10, h⟩ := bindO h
 refine kC [0] 40 (iV r10.1) [.vec 0 (intsD r10.2)] rfl Try.call82 rfl rfl (spec_l10Size_ac k p0 s9 (w64 ((bShl .i64 1 (IntKind.u64.wrap p0.p)) - 1)) _ hr10) rfl ?_
 refine AOps_buildSlice 41 _ _ _ [] (intsD ([] : List Int)) _ rfl rfl rfl rfl rfl (by decide) Try.underlying24 Try.sizeOf2 (zero_of Try.typeInfo2 rfl) rfl rfl (intsD_one _) ?_
 refine kN 2 rfl ?_
 refine kR ?_
 refine kM 1 rfl ?_
 refine AOps_buildSlice 43 _ _ _ [_] (intsD ([w64 ((bShl .i64 1 (IntKind.u64.wrap p0.p)) - 1)])) _ rfl rfl rfl rfl rfl (by decide) Try.underlying24 Try.sizeOf2 (zero_of Try.typeInfo2 rfl) rfl rfl (intsD_one _) ?_
 refine kN 1 rfl ?_
 refine kB (fun s52 => [(8, .vec 0 0)]) (fun s52 => [.vec 0 (intsD s52)]) h (fun s52 h => ?_) (fun s52 h => ?_)
 ·refine ACode_block ?_
  refine ACode_loopW (fun k1 E H => ∃ (x11 : Int) (x12 : List Int) (x13 : List Int) (x14 : List Int), E = [(1, .d (.pv (colD p0) 0)), (5, .vec 0 0), (7, iV x11), (8, .vec 1 0), (9, .vec 2 0)] ∧ H = [.vec 0 (intsD x12), .vec 0 (intsD x13), .vec 0 (intsD x14)] ∧ spec_LesserPart_l1 k p0 k1 x11 x12 x13 x14 = some s52) k _ _ (Weak_keep 0 hm [1, 5, 7, 8, 9] [0, 1, 2] _ _ rfl rfl rfl) ⟨_, _, _, _, rfl, rfl, h⟩ ?_
  clear h
  rintro k1 E H ⟨x11, x12, x13, x14, rfl, rfl, h⟩
  cases k1 with
  | zero => cases (show (none : Option (List Int)) = some _ from h)
  | succ k1 =>
   rw [spec_LesserPart_l1] at h
   refine ACode_seq ?_
   refine kR ?_
   refine kM 1 rfl ?_
   refine AOps_q 45 _ rfl rfl rfl (QOp_gtr _ _ _ _ _ _ _ rfl rfl rfl) ?_
   refine AOps_nil ?_
   refine kI h rfl (fun h _ => ?_) (fun h _ => ?_)
   ·refine ACode_skip ?_
    obtain ⟨s51, hss51, hks51⟩ := bindO h
    clear h
    refine ACode_tailJ (fun E' H' => Weak 119 G E' H' [(1, .d (.pv (colD p0) 0)), (5, .vec 0 0), (7, iV s51.1), (8, .vec 1 0), (9, .vec 2 0)] [.vec 0 (intsD s51.2.1), .vec 0 (intsD s51.2.2.1), .vec 0 (intsD s51.2.2.2)]) ?_ ?_
    ·have h := hss51
     clear hss51
     refine ACode_block ?_
     refine kR ?_
     refine kN 1 rfl ?_
     refine kR ?_
     refine kN 1 rfl ?_
     refine ACode_block ?_
     refine ACode_loopW (fun k2 E H => ∃ (x16 : Int) (x17 : Bool) (x18 : Int) (x19 : List Int) (x20 : List Int) (x21 : List Int), E = [(1, .d (.pv (colD p0) 0)), (5, .vec 0 0), (7, iV x16), (8, .vec 1 0), (9, .vec 2 0), (10, bV x17), (11, iV x18)] ∧ H = [.vec 0 (intsD x19), .vec 0 (intsD x20), .vec 0 (intsD x21)] ∧ spec_LesserPart_l2 k p0 k2 x16 x17 x18 x19 x20 x21 = some s51) k _ _ (Weak_keep 0 hm [1, 5, 7, 8, 9, 10, 11] [0, 1, 2] _ _ rfl rfl rfl) ⟨_, _, _, _, _, _, rfl, rfl, h⟩ ?_
     clear h
     rintro k2 E H ⟨x16, x17, x18, x19, x20, x21, rfl, rfl, h⟩
     cases k2 with
     | zero => cases (show (none : Option (Int × List Int × List Int × List Int)) = some _ from h)
     | succ k2 =>
      rw [spec_LesserPart_l2] at h
      refine kO (fun s25 => [(1, .d (.pv (colD p0) 0)), (5, .vec 0 0), (7, iV x16), (8, .vec 1 0), (9, .vec 2 0), (10, bV x17), (11, iV x18)]) (fun s25 => [.vec 0 (intsD x19), .vec 0 (intsD x20), .vec 0 (intsD x21)]) h (fun os25 h hks25 => ?_) (fun s25 h => ?_)
      ·refine kL (fun s23 => [(1, .d (.pv (colD p0) 0)), (5, .vec 0 0), (7, iV x16), (8, .vec 1 0), (9, .vec 2 0), (10, bV x17), (11, iV x18), (53, bV s23)]) (fun s23 => [.vec 0 (intsD x19), .vec 0 (intsD x20), .vec 0 (intsD x21)]) h (fun s23 h => ?_) (fun s23 h => ?_)
       ·refine (ACode_region ?_)
        refine kM 1 rfl ?_
        refine AOps_q 47 _ rfl rfl rfl (QOp_fieldAddr_pv _ _ _ _ _ 0 _ _ rfl Try.underlying29 rfl _ Try.sizeOf2 rfl rfl) ?_
        refine AOps_q 48 _ rfl rfl rfl (QOp_load_pv _ _ _ _ _ rfl Try.isAgg2 rfl rfl) ?_
        refine AOps_q 49 _ rfl rfl rfl (QOp_lss _ _ _ _ _ _ _ rfl rfl rfl) ?_
        refine kM 1 rfl ?_
        refine AOps_case 50 _ rfl (fun hb22 => ?_) (fun hb22 => ?_)
        ·have h := iteT hb22 h
         refine kM 1 rfl ?_
         refine AOps_q 52 _ rfl rfl rfl (QOp_not _ _ _ rfl rfl) ?_
         refine kN 1 rfl ?_
         cases h
         exact Weak_keep 0 hm [1, 5, 7, 8, 9, 10, 11, 53] [0, 1, 2] _ _ rfl rfl rfl
        have h := iteF hb22 h
        refine AOps_skip 51 rfl rfl rfl ?_
        refine AOps_skip 52 rfl rfl rfl ?_
        refine kN 1 rfl ?_
        cases h
        exact Weak_keep 0 hm [1, 5, 7, 8, 9, 10, 11, 53] [0, 1, 2] _ _ rfl rfl rfl
       refine kI h rfl (fun h _ => ?_) (fun h _ => ?_)
       ·refine ACode_skip ?_
        cases h
        exact ⟨_, rfl, Weak_keep 0 hm [1, 5, 7, 8, 9, 10, 11] [0, 1, 2] _ _ rfl rfl rfl⟩
       refine ACode_exit ?_
       obtain ⟨rr, hz53, h2⟩ := bindO h
       obtain rfl := Option.some.inj h2
       obtain rfl := Option.some.inj (show some rr = some _ from hks25)
       have h := hz53
       cases h
       exact Weak_keep 0 hm [1, 5, 7, 8, 9] [0, 1, 2] _ _ rfl rfl rfl
      refine kB (fun s50 => [(1, .d (.pv (colD p0) 0)), (5, .vec 0 0), (7, iV s50.1), (8, .vec 1 0), (9, .vec 2 0), (10, bV s50.2.1), (11, iV x18)]) (fun s50 => [.vec 0 (intsD s50.2.2.1), .vec 0 (intsD s50.2.2.2.1), .vec 0 (intsD s50.2.2.2.2)]) h (fun s50 h => ?_) (fun s50 h => ?_)
      ·refine ACode_block ?_
       refine kR ?_
       refine AOps_buildSlice 56 _ _ _ [] (intsD ([] : List Int)) _ rfl rfl rfl rfl rfl (by decide) Try.underlying24 Try.sizeOf2 (zero_of Try.typeInfo2 rfl) rfl rfl (intsD_one _) ?_
       refine kN 1 rfl ?_
       refine kB (fun s46 => [(1, .d (.pv (colD p0) 0)), (5, .vec 0 0), (7, iV x16), (8, .vec 1 0), (9, .vec 2 0), (10, bV x17), (11, iV x18), (12, .vec 3 0)]) (fun s46 => [.vec 0 (intsD s46.1), .vec 0 (intsD x20), .vec 0 (intsD x21), .vec 0 (intsD s46.2)]) h (fun s46 h => ?_) (fun s46 h => ?_)
       ·refine kR ?_
        refine kN 1 rfl ?_
        refine ACode_block ?_
        refine ACode_loopW (fun k3 E H => ∃ (x26 : Int) (x27 : List Int) (x28 : List Int), E = [(1, .d (.pv (colD p0) 0)), (5, .vec 0 0), (7, iV x16), (8, .vec 1 0), (9, .vec 2 0), (10, bV x17), (11, iV x18), (12, .vec 3 0), (13, iV x26)] ∧ H = [.vec 0 (intsD x27), .vec 0 (intsD x20), .vec 0 (intsD x21), .vec 0 (intsD x28)] ∧ spec_LesserPart_l3 k p0 x16 x18 x21 k3 x26 x27 x28 = some s46) k _ _ (Weak_keep 0 hm [1, 5, 7, 8, 9, 10, 11, 12, 13] [0, 1, 2, 3] _ _ rfl rfl rfl) ⟨_, _, _, rfl, rfl, h⟩ ?_
        clear h
        rintro k3 E H ⟨x26, x27, x28, rfl, rfl, h⟩
        cases k3 with
        | zero => cases (show (none : Option (List Int × List Int)) = some _ from h)
        | succ k3 =>
         rw [spec_LesserPart_l3] at h
         refine ACode_seq ?_
         refine kR ?_
         refine kM 2 rfl ?_
         refine AOps_q 59 _ rfl rfl rfl (QOp_len_vec _ _ _ _ _ _ _ _ (intsD_length _) rfl rfl rfl rfl Try.underlying24 rfl rfl) ?_
         refine AOps_q 60 _ rfl rfl rfl (QOp_lss _ _ _ _ _ _ _ rfl rfl rfl) ?_
         refine AOps_nil ?_
         refine kI h rfl (fun h _ => ?_) (fun h _ => ?_)
         ·refine ACode_skip ?_
          refine kB (fun s45 => [(1, .d (.pv (colD p0) 0)), (5, .vec 0 0), (7, iV x16), (8, .vec 1 0), (9, .vec 2 0), (10, bV x17), (11, iV x18), (12, .vec 3 0), (13, iV x26)]) (fun s45 => [.vec 0 (intsD s45.1), .vec 0 (intsD x20), .vec 0 (intsD x21), .vec 0 (intsD s45.2)]) h (fun s45 h => ?_) (fun s45 h => ?_)
          ·refine ACode_block ?_
           refine ACode_seq ?_
           refine kR ?_
           refine kM 2 rfl ?_
           obtain ⟨hc30, h⟩ := guardO h
           refine AOps_q 65 _ rfl rfl rfl (QOp_indexAddr_vec _ _ _ _ _ _ _ _ _ rfl Try.underlying24 Try.sizeOf2 hc30.1 (by rw [intsD_length]; exact hc30.2) rfl rfl rfl) ?_
           refine AOps_q 66 _ rfl rfl rfl (QOp_load_eptr _ _ _ _ _ _ _ rfl Try.isAgg2 rfl rfl (intsD_get _ _ 0 (by omega))) ?_
           refine kM 1 rfl ?_
           refine AOps_q 68 _ rfl rfl rfl (QOp_conv _ _ _ _ _ _ rfl rfl Try.underlying93 rfl) ?_
           obtain ⟨hc31, h⟩ := guardO h
           refine AOps_q 69 _ rfl rfl rfl (QOp_shr _ _ _ _ _ _ _ _ hc31 rfl rfl rfl) ?_
           refine AOps_q 70 _ rfl rfl rfl (QOp_and _ _ _ _ _ _ _ rfl rfl rfl) ?_
           refine AOps_q 71 _ rfl rfl rfl (QOp_eql _ _ _ _ _ _ _ rfl rfl rfl) ?_
           refine AOps_nil ?_
           refine kI h rfl (fun h _ => ?_) (fun h _ => ?_)
           ·refine ACode_exit ?_
            cases h
            exact Weak_keep 0 hm [1, 5, 7, 8, 9, 10, 11, 12, 13] [0, 1, 2, 3] _ _ rfl rfl rfl
           refine ACode_skip ?_
           refine kR ?_
           refine kM 2 rfl ?_
           obtain ⟨hc33, h⟩ := guardO h
           refine AOps_q 74 _ rfl rfl rfl (QOp_indexAddr_vec _ _ _ _ _ _ _ _ _ rfl Try.underlying24 Try.sizeOf2 hc33.1 (by rw [intsD_length]; exact hc33.2) rfl rfl rfl) ?_
           refine AOps_q 75 _ rfl rfl rfl (QOp_load_eptr _ _ _ _ _ _ _ rfl Try.isAgg2 rfl rfl (intsD_get _ _ 0 (by omega))) ?_
           refine kM 1 rfl ?_
           refine AOps_q 77 _ rfl rfl rfl (QOp_add _ _ _ _ _ _ _ rfl rfl rfl) ?_
           refine AOps_q 78 _ rfl rfl rfl (QOp_conv _ _ _ _ _ _ rfl rfl Try.underlying93 rfl) ?_
           obtain ⟨hc34, h⟩ := guardO h
           refine AOps_q 79 _ rfl rfl rfl (QOp_shr _ _ _ _ _ _ _ _ hc34 rfl rfl rfl) ?_
           refine kM 1 rfl ?_
           refine AOps_q 81 _ rfl rfl rfl (QOp_add _ _ _ _ _ _ _ rfl rfl rfl) ?_
           refine AOps_q 82 _ rfl rfl rfl (QOp_conv _ _ _ _ _ _ rfl rfl Try.underlying93 rfl) ?_
           obtain ⟨hc35, h⟩ := guardO h
           refine AOps_q 83 _ rfl rfl rfl (QOp_shl _ _ _ _ _ _ _ _ hc35 rfl rfl rfl) ?_
           refine kN 1 rfl ?_
           refine kR ?_
           refine kN 1 rfl ?_
           refine ACode_block ?_
           refine ACode_loopW (fun k4 E H => ∃ (x36 : Int) (x37 : List Int) (x38 : List Int), E = [(1, .d (.pv (colD p0) 0)), (5, .vec 0 0), (7, iV x16), (8, .vec 1 0), (9, .vec 2 0), (10, bV x17), (11, iV x18), (12, .vec 3 0), (13, iV x26), (14, iV (bShl .i64 (bShr .i64 (x21.getD x26.toNat 0) (IntKind.u64.wrap (w64 (x18 + 1)))) (IntKind.u64.wrap (w64 (x18 + 1))))), (15, iV x36)] ∧ H = [.vec 0 (intsD x37), .vec 0 (intsD x20), .vec 0 (intsD x21), .vec 0 (intsD x38)] ∧ spec_LesserPart_l4 k p0 x16 x18 x21 x26 k4 x36 x37 x38 = some s45) k _ _ (Weak_keep 0 hm [1, 5, 7, 8, 9, 10, 11, 12, 13, 14, 15] [0, 1, 2, 3] _ _ rfl rfl rfl) ⟨_, _, _, rfl, rfl, h⟩ ?_
           clear h
           rintro k4 E H ⟨x36, x37, x38, rfl, rfl, h⟩
           cases k4 with
           | zero => cases (show (none : Option (List Int × List Int)) = some _ from h)
           | succ k4 =>
            rw [spec_LesserPart_l4] at h
            refine ACode_seq ?_
            refine kR ?_
            refine kM 1 rfl ?_
            refine AOps_q 85 _ rfl rfl rfl (QOp_fieldAddr_pv _ _ _ _ _ 1 _ _ rfl Try.underlying29 rfl _ Try.sizeOf2 rfl rfl) ?_
            refine AOps_q 86 _ rfl rfl rfl (QOp_load_pv _ _ _ _ _ rfl Try.isAgg2 rfl rfl) ?_
            refine AOps_q 87 _ rfl rfl rfl (QOp_lss _ _ _ _ _ _ _ rfl rfl rfl) ?_
            refine AOps_nil ?_
            refine kI h rfl (fun h _ => ?_) (fun h _ => ?_)
            ·refine ACode_skip ?_
             refine kB (fun s44 => [(1, .d (.pv (colD p0) 0)), (5, .vec 0 0), (7, iV x16), (8, .vec 1 0), (9, .vec 2 0), (10, bV x17), (11, iV x18), (12, .vec 3 0), (13, iV x26), (14, iV (bShl .i64 (bShr .i64 (x21.getD x26.toNat 0) (IntKind.u64.wrap (w64 (x18 + 1)))) (IntKind.u64.wrap (w64 (x18 + 1))))), (15, iV x36)]) (fun s44 => [.vec 0 (intsD s44.1), .vec 0 (intsD x20), .vec 0 (intsD x21), .vec 0 (intsD s44.2)]) h (fun s44 h => ?_) (fun s44 h => ?_)
             ·refine ACode_block ?_
              refine kR ?_
              refine kM 1 rfl ?_
              refine AOps_q 91 _ rfl rfl rfl (QOp_loadN_pv _ _ _ _ _ _ rfl Try.isAgg29 Try.sizeOf29 rfl (colD_all _) (colD_length _)) ?_
              refine kM 2 rfl ?_
              obtain ⟨r40, hr40, h⟩ := bindO h
              refine kC [] 94 (iV r40) [.vec 0 (intsD x37), .vec 0 (intsD x20), .vec 0 (intsD x21), .vec 0 (intsD x38)] rfl Try.call68 rfl rfl (spec_l01Around_ac k p0 x18 x36 _ hr40) rfl ?_
              refine AOps_q 95 _ rfl rfl rfl (QOp_and _ _ _ _ _ _ _ rfl rfl rfl) ?_
              refine kN 1 rfl ?_
              refine kR ?_
              refine AOps_q 96 _ rfl rfl rfl (QOp_loadN_pv _ _ _ _ _ _ rfl Try.isAgg29 Try.sizeOf29 rfl (colD_all _) (colD_length _)) ?_
              refine kM 2 rfl ?_
              obtain ⟨r41, hr41, h⟩ := bindO h
              refine kC [0] 99 (iV r41.1) [.vec 0 (intsD r41.2), .vec 0 (intsD x20), .vec 0 (intsD x21), .vec 0 (intsD x38)] rfl Try.call82 rfl rfl (spec_l10Size_ac k p0 x37 (bAnd .i64 (bShl .i64 (bShr .i64 (x21.getD x26.toNat 0) (IntKind.u64.wrap (w64 (x18 + 1)))) (IntKind.u64.wrap (w64 (x18 + 1)))) r40) _ hr41) rfl ?_
              refine AOps_q 100 _ rfl rfl rfl (QOp_add _ _ _ _ _ _ _ rfl rfl rfl) ?_
              refine kM 1 rfl ?_
              refine AOps_q 102 _ rfl rfl rfl (QOp_geq _ _ _ _ _ _ _ rfl rfl rfl) ?_
              refine AOps_nil ?_
              refine kI h rfl (fun h _ => ?_) (fun h _ => ?_)
              ·refine (ACode_region ?_)
               refine kM 2 rfl ?_
               refine AOps_buildSlice 105 _ _ _ [_] (intsD ([bAnd .i64 (bShl .i64 (bShr .i64 (x21.getD x26.toNat 0) (IntKind.u64.wrap (w64 (x18 + 1)))) (IntKind.u64.wrap (w64 (x18 + 1)))) r40])) _ rfl rfl rfl rfl rfl (by decide) Try.underlying24 Try.sizeOf2 (zero_of Try.typeInfo2 rfl) rfl rfl (intsD_one _) ?_
               obtain ⟨hc43, h⟩ := guardO h
               refine AOps_append 106 _ _ _ _ _ _ _ _ _ _ _ _ rfl rfl rfl rfl rfl rfl rfl Try.underlying24 Try.type2 rfl rfl rfl (by decide) rfl rfl rfl rfl (intsD_one _) (by rw [intsD_length, intsD_length]; exact hc43) ?_
               rw [intsD_app]
               refine kN 1 rfl ?_
               cases h
               exact Weak_trans (Weak_keep 0 hm [1, 5, 7, 8, 9, 10, 11, 12, 13, 14, 15] [0, 1, 2, 3] _ _ rfl rfl rfl) (Weak_reset 0 hm hz [1, 5, 7, 8, 9, 10, 11, 12, 13, 14, 15] _ _ rfl rfl)
              refine ACode_skip ?_
              cases h
              exact Weak_keep 0 hm [1, 5, 7, 8, 9, 10, 11, 12, 13, 14, 15] [0, 1, 2, 3] _ _ rfl rfl rfl
             refine (ACode_region ?_)
             refine kM 1 rfl ?_
             refine AOps_q 89 _ rfl rfl rfl (QOp_add _ _ _ _ _ _ _ rfl rfl rfl) ?_
             refine kN 1 rfl ?_
             exact ⟨k4, _, _, Nat.lt_succ_self _, Weak_keep 0 hm [1, 5, 7, 8, 9, 10, 11, 12, 13, 14, 15] [0, 1, 2, 3] _ _ rfl rfl rfl, _, _, _, rfl, rfl, h⟩
            refine ACode_exit ?_
            cases h
            exact Weak_keep 0 hm [1, 5, 7, 8, 9, 10, 11, 12, 13] [0, 1, 2, 3] _ _ rfl rfl rfl
          refine (ACode_region ?_)
          refine kM 1 rfl ?_
          refine AOps_q 62 _ rfl rfl rfl (QOp_add _ _ _ _ _ _ _ rfl rfl rfl) ?_
          refine kN 1 rfl ?_
          exact ⟨k3, _, _, Nat.lt_succ_self _, Weak_keep 0 hm [1, 5, 7, 8, 9, 10, 11, 12, 13] [0, 1, 2, 3] _ _ rfl rfl rfl, _, _, _, rfl, rfl, h⟩
         refine ACode_exit ?_
         cases h
         exact Weak_keep 0 hm [1, 5, 7, 8, 9, 10, 11, 12] [0, 1, 2, 3] _ _ rfl rfl rfl
       refine kR ?_
       refine kM 1 rfl ?_
       refine AOps_q 108 _ rfl rfl rfl (QOp_len_vec _ _ _ _ _ _ _ _ (intsD_length _) rfl rfl rfl rfl Try.underlying24 rfl rfl) ?_
       refine AOps_q 109 _ rfl rfl rfl (QOp_gtr _ _ _ _ _ _ _ rfl rfl rfl) ?_
       refine AOps_nil ?_
       refine kI h rfl (fun h _ => ?_) (fun h _ => ?_)
       ·refine kR ?_
        refine kN 1 rfl ?_
        refine kR ?_
        refine kM 2 rfl ?_
        refine AOps_buildSlice 112 _ _ _ [_] (intsD ([x18])) _ rfl rfl rfl rfl rfl (by decide) Try.underlying24 Try.sizeOf2 (zero_of Try.typeInfo2 rfl) rfl rfl (intsD_one _) ?_
        obtain ⟨hc48, h⟩ := guardO h
        refine AOps_append 113 _ _ _ _ _ _ _ _ _ _ _ _ rfl rfl rfl rfl rfl rfl rfl Try.underlying24 Try.type2 rfl rfl rfl (by decide) rfl rfl rfl rfl (intsD_one _) (by rw [intsD_length, intsD_length]; exact hc48) ?_
        rw [intsD_app]
        refine kN 1 rfl ?_
        refine kR ?_
        refine kM 1 rfl ?_
        obtain ⟨r49, hr49, h⟩ := bindO h
        refine AOps_callL [] 115 _ _ _ _ _ _ _ _ _ _ rfl rfl rfl rfl rfl rfl rfl Try.call83 rfl (nodupB_sound _ rfl) rfl rfl rfl (spec_l10Each_ac k s46.2 _ hr49) ?_
        rintro _ _ ⟨rfl, rfl⟩
        refine ⟨(allc (intsD_flat _) (fun _ h => nomatch h)), (allc (trivial) (fun _ h => nomatch h)), AOps_as 115 (v' := .vec 5 0) (H' := [.vec 0 (intsD s46.1), .vec 1 (intsD (x20 ++ ([x18]))), .vec 0 (intsD x21), .vec 0 (intsD s46.2), .vec 0 (intsD ([x18])), .vec 0 (intsD r49)]) rfl rfl ?_⟩
        refine kN 1 rfl ?_
        refine (ACode_region ?_)
        refine kM 1 rfl ?_
        refine AOps_q 117 _ rfl rfl rfl (QOp_sub _ _ _ _ _ _ _ rfl rfl rfl) ?_
        refine kN 1 rfl ?_
        cases h
        exact Weak_trans (Weak_keep 0 hm [1, 5, 7, 8, 9, 10, 11] [0, 1, 5] _ _ rfl rfl rfl) (Weak_reset 0 hm hz [1, 5, 7, 8, 9, 10, 11] _ _ rfl rfl)
       refine ACode_skip ?_
       cases h
       exact Weak_keep 0 hm [1, 5, 7, 8, 9, 10, 11] [0, 1, 2] _ _ rfl rfl rfl
      refine (ACode_region ?_)
      refine kM 1 rfl ?_
      refine AOps_q 55 _ rfl rfl rfl (QOp_add _ _ _ _ _ _ _ rfl rfl rfl) ?_
      refine kN 1 rfl ?_
      exact ⟨k2, _, _, Nat.lt_succ_self _, Weak_keep 0 hm [1, 5, 7, 8, 9, 10, 11] [0, 1, 2] _ _ rfl rfl rfl, _, _, _, _, _, _, rfl, rfl, h⟩
    intro E' H' hw
    refine ATail_weak hw ?_
    have h := hks51
    refine ATail_end ?_
    exact ⟨k1, _, _, Nat.lt_succ_self _, Weak_keep 0 hm [1, 5, 7, 8, 9] [0, 1, 2] _ _ rfl rfl rfl, _, _, _, _, rfl, rfl, h⟩
   refine ACode_exit ?_
   cases h
   exact Weak_keep 0 hm [8] [1] _ _ rfl rfl rfl
 refine kR ?_
 refine kN 3 rfl ?_
 refine ACode_ret ?_
 cases h
 exact ⟨_, _, fun r a w h => ⟨r, h⟩, _, _, [], _, (.cons (ResV_tmp _ _ rfl) (.cons (ResV_tmp _ _ rfl) .nil)), rfl, rfl, rfl, rfl, rfl⟩

-- loop.example/g01362/spec.DrawIsLesserColoured
def spec_DrawIsLesserColoured (k : Nat) (p0 : List UInt8) : Option (Col × List Int) :=
 (spec_l01From k p0).bind fun r1 => (spec_l01Spoil k r1).bind fun r2 => (spec_l01DrawSet k r2.2 (if 17 < (if r2.1.p < 1 then 1 else r2.1.p) then 17 else (if r2.1.p < 1 then 1 else r2.1.p))).bind fun r3 => ((spec_LesserPart k r2.1).bind fun r4 => ((if decide (r4.2 = 0) then (spec_l01Next r3.2 2).bind fun r6 => some (decide (r6.1 = 0)) else some false) : Option (Bool)).bind fun s7 => (if s7 then some r4.1 else some r3.1) : Option (List Int)).bind fun s9 => some (r2.1, s9)
set_option maxRecDepth 100000 in
theorem spec_DrawIsLesserColoured_ac (k : Nat) (p0 : List UInt8) (r : Col × List Int) (h : spec_DrawIsLesserColoured k p0 = some r) : AC Try.prog 20 [.d (.sl none (bysD p0))] [] (fun res H' => res = [.d (.agg (colD r.1)), .d (.sl none (intsD r.2))] ∧ H' = []) := by
 refine AC_of_body true Try.func20 rfl Try.ntmps20 (rvs := [.cell 2 29, .tmp 3]) rfl rfl (fun G hG => ?_)
 have hm : G.H.length = 0 := by rw [hG]; rfl
 have hz : zeroG G.H = true := by rw [hG]; rfl
 unfold spec_DrawIsLesserColoured at h
 refine kR ?_
 refine AOps_alloc 2 _ _ (colD Col.zero) (zero_of Try.typeInfo29 rfl) (by rfl) rfl rfl rfl rfl ?_
 refine kN 1 rfl ?_
 refine kR ?_
 refine kM 1 rfl ?_
 obtain ⟨r1, hr1, h⟩ := bindO h
 refine kC [] 10 (.ptr 1 0) [.box (colD Col.zero), .box (srcD r1)] rfl Try.call33 rfl rfl (spec_l01From_ac k p0 _ hr1) rfl ?_
 refine kN 1 rfl ?_
 refine kR ?_
 refine kM 1 rfl ?_
 obtain ⟨r2, hr2, h⟩ := bindO h
 refine kC [1] 12 (.d (.agg (colD r2.1))) [.box (colD Col.zero), .box (srcD r2.2)] rfl Try.call73 rfl rfl (spec_l01Spoil_ac k r1 _ hr2) rfl ?_
 refine AOps_alloc 5 _ _ (colD Col.zero) (zero_of Try.typeInfo29 rfl) (by rfl) rfl rfl rfl rfl ?_
 refine AOps_store _ _ _ _ _ _ (colD _) _ _ rfl rfl rfl rfl rfl rfl rfl (colD_one _) (by rw [colD_length]; exact Try.sizeOf29) (by rw [colD_length, colD_length]; decide) (colD_whole _ _) ?_
 refine AOps_nil ?_
 refine kR ?_
 refine kM 1 rfl ?_
 refine AOps_q 14 _ rfl rfl rfl (QOp_fieldAddr_ptr _ _ _ _ _ _ 0 _ _ rfl Try.underlying29 rfl _ Try.sizeOf2 rfl rfl rfl rfl) ?_
 refine AOps_q 15 _ rfl rfl rfl (QOp_load_ptr _ _ _ _ _ _ rfl Try.isAgg2 rfl rfl rfl) ?_
 refine AOps_q 16 _ rfl rfl rfl (QOp_max _ _ _ _ _ _ rfl rfl rfl rfl rfl) ?_
 refine AOps_q 17 _ rfl rfl rfl (QOp_min _ _ _ _ _ _ rfl rfl rfl rfl rfl) ?_
 obtain ⟨r3, hr3, h⟩ := bindO h
 refine kC [1] 18 (.vec 3 0) [.box (colD Col.zero), .box (srcD r3.2), .box (colD r2.1), .vec 0 (intsD r3.1)] rfl Try.call74 rfl rfl (spec_l01DrawSet_ac k r2.2 (if 17 < (if r2.1.p < 1 then 1 else r2.1.p) then 17 else (if r2.1.p < 1 then 1 else r2.1.p)) _ hr3) rfl ?_
 refine kN 1 rfl ?_
 refine kB (fun s9 => [(2, .ptr 0 0), (5, .ptr 1 0), (6, .d (.sl none (intsD s9)))]) (fun s9 => [.box (colD Col.zero), .box (colD r2.1)]) h (fun s9 h => ?_) (fun s9 h => ?_)
 ·refine kR ?_
  refine AOps_q 20 _ rfl rfl rfl (QOp_loadN_ptr _ _ _ _ _ _ _ rfl Try.isAgg29 Try.sizeOf29 rfl rfl (colD_all _) (colD_length _)) ?_
  obtain ⟨r4, hr4, h⟩ := bindO h
  refine kC [] 21 (.tup [.d (.sl none (intsD r4.1)), iV r4.2]) [.box (colD Col.zero), .box (srcD r3.2), .box (colD r2.1), .vec 0 (intsD r3.1)] rfl Try.call24 rfl rfl (spec_LesserPart_ac k r2.1 _ hr4) rfl ?_
  refine kN 5 rfl ?_
  refine kB (fun s7 => [(2, .ptr 0 0), (5, .ptr 1 0), (6, .vec 2 0), (7, .d (.sl none (intsD r4.1))), (30, bV s7)]) (fun s7 => [.box (colD Col.zero), .box (colD r2.1), .vec 0 (intsD r3.1)]) h (fun s7 h => ?_) (fun s7 h => ?_)
  ·refine (ACode_region ?_)
   refine kM 1 rfl ?_
   refine AOps_q 25 _ rfl rfl rfl (QOp_eql _ _ _ _ _ _ _ rfl rfl rfl) ?_
   refine kM 1 rfl ?_
   refine AOps_case 26 _ rfl (fun hb5 => ?_) (fun hb5 => ?_)
   ·have h := iteT hb5 h
    refine kM 1 rfl ?_
    obtain ⟨r6, hr6, h⟩ := bindO h
    refine kC [1] 28 (iV r6.1) [.box (colD Col.zero), .box (srcD r6.2), .box (colD r2.1), .vec 0 (intsD r3.1)] rfl Try.call34 rfl rfl (spec_l01Next_ac r3.2 2 _ hr6) rfl ?_
    refine AOps_q 29 _ rfl rfl rfl (QOp_eql _ _ _ _ _ _ _ rfl rfl rfl) ?_
    refine kN 1 rfl ?_
    cases h
    exact Weak_keep 0 hm [2, 5, 6, 7, 30] [0, 2, 3] _ _ rfl rfl rfl
   have h := iteF hb5 h
   refine AOps_skip 27 rfl rfl rfl ?_
   refine AOps_skip 28 rfl rfl rfl ?_
   refine AOps_skip 29 rfl rfl rfl ?_
   refine kN 1 rfl ?_
   cases h
   exact Weak_keep 0 hm [2, 5, 6, 7, 30] [0, 2, 3] _ _ rfl rfl rfl
  refine kI h rfl (fun h _ => ?_) (fun h _ => ?_)
  ·refine (ACode_region ?_)
   refine kN 2 rfl ?_
   cases h
   exact Weak_keep 0 hm [2, 5, 6] [0, 1] _ _ rfl rfl rfl
  refine ACode_skip ?_
  cases h
  exact Weak_trans (Weak_frz [6] [] 2 0 _ (allc (rfl) (fun _ h => nomatch h)) (fun _ h => nomatch h) rfl) (Weak_keep 0 hm [2, 5, 6] [0, 1] _ _ rfl rfl rfl)
 refine kR ?_
 refine AOps_q 32 _ rfl rfl rfl (QOp_loadN_ptr _ _ _ _ _ _ _ rfl Try.isAgg29 Try.sizeOf29 rfl rfl (colD_all _) (colD_length _)) ?_
 refine kM 1 rfl ?_
 refine AOps_store _ _ _ _ _ _ (colD _) _ _ rfl rfl rfl rfl rfl rfl rfl (colD_one _) (by rw [colD_length]; exact Try.sizeOf29) (by rw [colD_length, colD_length]; decide) (colD_whole _ _) ?_
 refine kN 1 rfl ?_
 refine ACode_ret ?_
 cases h
 exact ⟨_, _, fun r a w h => ⟨r, h⟩, _, _, [], _, (.cons (ResV_agg _ _ _ _ _ _ Try.isAgg29 Try.sizeOf29 rfl rfl (colD_take _) (colD_length _)) (.cons (ResV_tmp _ _ rfl) .nil)), rfl, rfl, rfl, rfl, rfl⟩

-- loop.example/g01362/impl.in
def impl_in (p0 : Int) (p1 : Int) (p2 : Int) : Bool :=
 letO (if decide (p1 ≤ p0) then decide (p0 ≤ p2) else false) fun (s2 : Bool) => s2
set_option maxRecDepth 100000 in
theorem impl_in_ac (p0 : Int) (p1 : Int) (p2 : Int) : AC Try.prog 37 [iV p0, iV p1, iV p2] [] (fun res H' => res = [bV (impl_in p0 p1 p2)] ∧ H' = []) := by
 refine AC_of_body true Try.func37 rfl Try.ntmps37 (rvs := [.tmp 6]) rfl rfl (fun G hG => ?_)
 have hm : G.H.length = 0 := by rw [hG]; rfl
 have hz : zeroG G.H = true := by rw [hG]; rfl
 obtain ⟨r, h⟩ : ∃ r, impl_in p0 p1 p2 = r := ⟨_, rfl⟩
 rw [h]
 unfold impl_in at h
 refine kR ?_
 refine kN 1 rfl ?_
 refine kL (fun s2 => [(6, bV s2)]) (fun s2 => []) h (fun s2 h => ?_) (fun s2 h => ?_)
 ·refine (ACode_region ?_)
  refine kM 2 rfl ?_
  refine AOps_q 9 _ rfl rfl rfl (QOp_geq _ _ _ _ _ _ _ rfl rfl rfl) ?_
  refine kM 1 rfl ?_
  refine AOps_case 10 _ rfl (fun hb1 => ?_) (fun hb1 => ?_)
  ·have h := iteT hb1 h
   refine kM 2 rfl ?_
   refine AOps_q 13 _ rfl rfl rfl (QOp_leq _ _ _ _ _ _ _ rfl rfl rfl) ?_
   refine kN 2 rfl ?_
   cases h
   exact Weak_keep 0 hm [6] [] _ _ rfl rfl rfl
  have h := iteF hb1 h
  refine AOps_skip 11 rfl rfl rfl ?_
  refine AOps_skip 12 rfl rfl rfl ?_
  refine AOps_skip 13 rfl rfl rfl ?_
  refine kN 2 rfl ?_
  cases h
  exact Weak_keep 0 hm [6] [] _ _ rfl rfl rfl
 refine ACode_ret ?_
 cases h
 exact ⟨_, _, fun r a w h => ⟨r, h⟩, _, _, [], _, (.cons (ResV_tmp _ _ rfl) .nil), rfl, rfl, rfl, rfl, rfl⟩

-- (*loop.example/g01362/impl.Colouring).edges
def impl_Colouring_edges (p0 : Col) : Int :=
 w64 ((w64 (p0.p * (w64 (p0.p - 1)))).tdiv 2)
set_option maxRecDepth 100000 in
theorem impl_Colouring_edges_ac (p0 : Col) : AC Try.prog 124 [.d (.pv (colD p0) 0)] [] (fun res H' => res = [iV (impl_Colouring_edges p0)] ∧ H' = []) := by
 refine AC_of_body true Try.func124 rfl Try.ntmps124 (rvs := [.tmp 2]) rfl rfl (fun G hG => ?_)
 have hm : G.H.length = 0 := by rw [hG]; rfl
 have hz : zeroG G.H = true := by rw [hG]; rfl
 obtain ⟨r, h⟩ : ∃ r, impl_Colouring_edges p0 = r := ⟨_, rfl⟩
 rw [h]
 unfold impl_Colouring_edges at h
 refine kR ?_
 refine kN 1 rfl ?_
 refine ACode_seq (ACode_quiet mixed (by kernel_rfl) ?_)
 refine kQ 1 rfl ?_
 refine AQ_q 4 _ rfl rfl rfl (QOp_nilCheck_pv _ _ _ rfl rfl) ?_
 refine AQ_q 5 _ rfl rfl rfl (QOp_fieldAddr_pv _ _ _ _ _ 0 _ _ rfl Try.underlying29 rfl _ Try.sizeOf2 rfl rfl) ?_
 refine AQ_q 6 _ rfl rfl rfl (QOp_load_pv _ _ _ _ _ rfl Try.isAgg2 rfl rfl) ?_
 refine kQ 1 rfl ?_
 refine AQ_q 8 _ rfl rfl rfl (QOp_nilCheck_pv _ _ _ rfl rfl) ?_
 refine AQ_q 9 _ rfl rfl rfl (QOp_fieldAddr_pv _ _ _ _ _ 0 _ _ rfl Try.underlying29 rfl _ Try.sizeOf2 rfl rfl) ?_
 refine AQ_q 10 _ rfl rfl rfl (QOp_load_pv _ _ _ _ _ rfl Try.isAgg2 rfl rfl) ?_
 refine AQ_q 11 _ rfl rfl rfl (QOp_sub _ _ _ _ _ _ _ rfl rfl rfl) ?_
 refine AQ_q 12 _ rfl rfl rfl (QOp_mul _ _ _ _ _ _ _ rfl rfl rfl) ?_
 refine AQ_q 13 _ rfl rfl rfl (QOp_quo _ _ _ _ _ _ _ (by decide) rfl rfl rfl) ?_
 refine kQ 1 rfl ?_
 refine AQ_nil ?_
 refine ACode_ret ?_
 cases h
 exact ⟨_, _, fun r a w h => ⟨r, h⟩, _, _, [], _, (.cons (ResV_tmp _ _ rfl) .nil), rfl, rfl, rfl, rfl, rfl⟩

-- (*loop.example/g01362/impl.Colouring).isColouring
def impl_Colouring_isColouring_l0 (k : Nat) (p0 : Col) : Nat → Int → Option (Sum (Unit) (Bool))
 | 0, _ => none
 | k0 + 1, x7 => (if decide (x7 < 136) then ((if 0 ≤ x7 ∧ x7 < 136 then letO (if decide (p0.k ≤ ((p0.e.get x7.toNat).toNat : Int)) then true else (if decide ((impl_Colouring_edges p0) ≤ x7) then !decide (((p0.e.get x7.toNat).toNat : Int) = 0) else false)) fun (s13 : Bool) => (if s13 then (some (.inr false)).bind fun rr => some (.inr rr) else some (.inl ())) else none) : Option (Sum (Unit) (Sum (Unit) (Bool)))).bind fun os15 => (match os15 with | .inl s15 => impl_Colouring_isColouring_l0 k p0 k0 (w64 (x7 + 1)) | .inr rr => some rr) else some (.inl ()))
def impl_Colouring_isColouring (k : Nat) (p0 : Col) : Option (Bool) :=
 (letO (if !(impl_in p0.p 1 17) then true else !(impl_in p0.k 1 4)) fun (s4 : Bool) => (if s4 then some (.inr false) else some (.inl ())) : Option (Sum (Unit) (Bool))).bind fun os6 => (match os6 with | .inl s6 => (impl_Colouring_isColouring_l0 k p0 k 0 : Option (Sum (Unit) (Bool))).bind fun os16 => (match os16 with | .inl s16 => some true | .inr rr => some rr) | .inr rr => some rr)
set_option maxRecDepth 100000 in
theorem impl_Colouring_isColouring_ac (k : Nat) (p0 : Col) (r : Bool) (h : impl_Colouring_isColouring k p0 = some r) : AC Try.prog 98 [.d (.pv (colD p0) 0)] [] (fun res H' => res = [bV r] ∧ H' = []) := by
 refine AC_of_body true Try.func98 rfl Try.ntmps98 (rvs := [.tmp 2]) rfl rfl (fun G hG => ?_)
 have hm : G.H.length = 0 := by rw [hG]; rfl
 have hz : zeroG G.H = true := by rw [hG]; rfl
 unfold impl_Colouring_isColouring at h
 refine kR ?_
 refine kN 1 rfl ?_
 refine kO (fun s6 => [(0, .d (.pv (colD p0) 0))]) (fun s6 => []) h (fun os6 h hks6 => ?_) (fun s6 h => ?_)
 ·refine kL (fun s4 => [(0, .d (.pv (colD p0) 0)), (18, bV s4)]) (fun s4 => []) h (fun s4 h => ?_) (fun s4 h => ?_)
  ·refine (ACode_region ?_)
   refine kM 1 rfl ?_
   refine AOps_q 6 _ rfl rfl rfl (QOp_nilCheck_pv _ _ _ rfl rfl) ?_
   refine AOps_q 7 _ rfl rfl rfl (QOp_fieldAddr_pv _ _ _ _ _ 0 _ _ rfl Try.underlying29 rfl _ Try.sizeOf2 rfl rfl) ?_
   refine AOps_q 8 _ rfl rfl rfl (QOp_load_pv _ _ _ _ _ rfl Try.isAgg2 rfl rfl) ?_
   refine kC [] 9 (bV (impl_in p0.p 1 17)) [] rfl Try.call37 rfl rfl (impl_in_ac p0.p 1 17) rfl ?_
   refine AOps_q 10 _ rfl rfl rfl (QOp_not _ _ _ rfl rfl) ?_
   refine kM 1 rfl ?_
   refine AOps_case 11 _ rfl (fun hb2 => ?_) (fun hb2 => ?_)
   ·have h := iteT hb2 h
    refine AOps_skip 12 rfl rfl rfl ?_
    refine AOps_skip 13 rfl rfl rfl ?_
    refine AOps_skip 14 rfl rfl rfl ?_
    refine AOps_skip 15 rfl rfl rfl ?_
    refine AOps_skip 16 rfl rfl rfl ?_
    refine AOps_skip 17 rfl rfl rfl ?_
    refine kN 1 rfl ?_
    cases h
    exact Weak_keep 0 hm [0, 18] [] _ _ rfl rfl rfl
   have h := iteF hb2 h
   refine kM 1 rfl ?_
   refine AOps_q 13 _ rfl rfl rfl (QOp_nilCheck_pv _ _ _ rfl rfl) ?_
   refine AOps_q 14 _ rfl rfl rfl (QOp_fieldAddr_pv _ _ _ _ _ 1 _ _ rfl Try.underlying29 rfl _ Try.sizeOf2 rfl rfl) ?_
   refine AOps_q 15 _ rfl rfl rfl (QOp_load_pv _ _ _ _ _ rfl Try.isAgg2 rfl rfl) ?_
   refine kC [] 16 (bV (impl_in p0.k 1 4)) [] rfl Try.call37 rfl rfl (impl_in_ac p0.k 1 4) rfl ?_
   refine AOps_q 17 _ rfl rfl rfl (QOp_not _ _ _ rfl rfl) ?_
   refine kN 1 rfl ?_
   cases h
   exact Weak_keep 0 hm [0, 18] [] _ _ rfl rfl rfl
  refine kI h rfl (fun h _ => ?_) (fun h _ => ?_)
  ·refine kR ?_
   refine kN 1 rfl ?_
   refine ACode_ret ?_
   cases h
   have h := hks6
   cases h
   exact ⟨_, _, fun r a w h => ⟨r, h⟩, _, _, [], _, (.cons (ResV_tmp _ _ rfl) .nil), rfl, rfl, rfl, rfl, rfl⟩
  refine ACode_skip ?_
  cases h
  exact ⟨_, rfl, Weak_keep 0 hm [0] [] _ _ rfl rfl rfl⟩
 refine kO (fun s16 => []) (fun s16 => []) h (fun os16 h hks16 => ?_) (fun s16 h => ?_)
 ·refine kR ?_
  refine kM 1 rfl ?_
  refine AOps_q 20 _ rfl rfl rfl (QOp_nilCheck_pv _ _ _ rfl rfl) ?_
  refine AOps_q 21 _ rfl rfl rfl (QOp_fieldAddr_pv _ _ _ _ _ 2 _ _ rfl Try.underlying29 rfl _ Try.sizeOf27 rfl rfl) ?_
  refine AOps_q 22 _ rfl rfl rfl (QOp_loadN_pv _ _ _ _ _ _ rfl Try.isAgg27 Try.sizeOf27 rfl (colD_edges _) (byD_length _)) ?_
  refine kN 1 rfl ?_
  refine ACode_block ?_
  refine ACode_loopW (fun k0 E H => ∃ (x7 : Int), E = [(0, .d (.pv (colD p0) 0)), (22, .d (.agg (byD p0.e))), (23, iV x7)] ∧ H = [] ∧ impl_Colouring_isColouring_l0 k p0 k0 x7 = some os16) k _ _ (Weak_keep 0 hm [0, 22, 23] [] _ _ rfl rfl rfl) ⟨_, rfl, rfl, h⟩ ?_
  clear h
  rintro k0 E H ⟨x7, rfl, rfl, h⟩
  cases k0 with
  | zero => cases (show (none : Option (Sum (Unit) (Bool))) = some _ from h)
  | succ k0 =>
   rw [impl_Colouring_isColouring_l0] at h
   refine kR ?_
   refine AOps_q 24 _ rfl rfl rfl (QOp_lss _ _ _ _ _ _ _ rfl rfl rfl) ?_
   refine AOps_nil ?_
   refine ACode_seq ?_
   refine kI h rfl (fun h _ => ?_) (fun h _ => ?_)
   ·refine ACode_skip ?_
    refine kO (fun s15 => [(0, .d (.pv (colD p0) 0)), (22, .d (.agg (byD p0.e))), (23, iV x7)]) (fun s15 => []) h (fun os15 h hks15 => ?_) (fun s15 h => ?_)
    ·refine ACode_block ?_
     refine kR ?_
     refine kM 1 rfl ?_
     obtain ⟨hc9, h⟩ := guardO h
     refine AOps_q 26 _ rfl rfl rfl (QOp_index_agg _ _ _ _ _ _ _ _ _ rfl Try.underlying27 Try.sizeOf5 Try.isAgg5 hc9.1 hc9.2 rfl rfl (byD_get _ _ (by omega))) ?_
     refine kN 2 rfl ?_
     refine kL (fun s13 => [(0, .d (.pv (colD p0) 0)), (22, .d (.agg (byD p0.e))), (23, iV x7), (43, bV s13)]) (fun s13 => []) h (fun s13 h => ?_) (fun s13 h => ?_)
     ·refine (ACode_region ?_)
      refine kM 1 rfl ?_
      refine AOps_q 28 _ rfl rfl rfl (QOp_fromByte _ _ _ _ _ rfl rfl Try.underlying2 wrap_i64_byte rfl) ?_
      refine kM 1 rfl ?_
      refine AOps_q 30 _ rfl rfl rfl (QOp_nilCheck_pv _ _ _ rfl rfl) ?_
      refine AOps_q 31 _ rfl rfl rfl (QOp_fieldAddr_pv _ _ _ _ _ 1 _ _ rfl Try.underlying29 rfl _ Try.sizeOf2 rfl rfl) ?_
      refine AOps_q 32 _ rfl rfl rfl (QOp_load_pv _ _ _ _ _ rfl Try.isAgg2 rfl rfl) ?_
      refine AOps_q 33 _ rfl rfl rfl (QOp_geq _ _ _ _ _ _ _ rfl rfl rfl) ?_
      refine kM 1 rfl ?_
      refine AOps_case 34 _ rfl (fun hb10 => ?_) (fun hb10 => ?_)
      ·have h := iteT hb10 h
       refine AOps_skip 35 rfl rfl rfl ?_
       refine AOps_skip 36 rfl rfl rfl ?_
       refine AOps_skip 37 rfl rfl rfl ?_
       refine AOps_skip 38 rfl rfl rfl ?_
       refine AOps_skip 39 rfl rfl rfl ?_
       refine AOps_skip 40 rfl rfl rfl ?_
       refine AOps_skip 41 rfl rfl rfl ?_
       refine AOps_skip 42 rfl rfl rfl ?_
       refine kN 1 rfl ?_
       cases h
       exact Weak_keep 0 hm [0, 22, 23, 43] [] _ _ rfl rfl rfl
      have h := iteF hb10 h
      refine kM 2 rfl ?_
      refine kC [] 37 (iV (impl_Colouring_edges p0)) [] rfl Try.call124 rfl rfl (impl_Colouring_edges_ac p0) rfl ?_
      refine AOps_q 38 _ rfl rfl rfl (QOp_geq _ _ _ _ _ _ _ rfl rfl rfl) ?_
      refine kM 1 rfl ?_
      refine AOps_case 39 _ rfl (fun hb12 => ?_) (fun hb12 => ?_)
      ·have h := iteT hb12 h
       refine kM 1 rfl ?_
       refine AOps_q 41 _ rfl rfl rfl (QOp_neq _ _ _ _ _ _ _ rfl rfl rfl) ?_
       refine kN 2 rfl ?_
       cases h
       exact Weak_keep 0 hm [0, 22, 23, 43] [] _ _ rfl rfl rfl
      have h := iteF hb12 h
      refine AOps_skip 40 rfl rfl rfl ?_
      refine AOps_skip 41 rfl rfl rfl ?_
      refine kN 2 rfl ?_
      cases h
      exact Weak_keep 0 hm [0, 22, 23, 43] [] _ _ rfl rfl rfl
     refine kI h rfl (fun h _ => ?_) (fun h _ => ?_)
     ·refine kR ?_
      refine kN 1 rfl ?_
      refine ACode_ret ?_
      obtain ⟨rr, hz17, h2⟩ := bindO h
      obtain rfl := Option.some.inj h2
      obtain rfl := Option.some.inj (show some rr = some _ from hks15)
      have h := hz17
      cases h
      have h := hks16
      cases h
      exact ⟨_, _, fun r a w h => ⟨r, h⟩, _, _, [], _, (.cons (ResV_tmp _ _ rfl) .nil), rfl, rfl, rfl, rfl, rfl⟩
     refine ACode_skip ?_
     cases h
     exact ⟨_, rfl, Weak_keep 0 hm [0, 22, 23] [] _ _ rfl rfl rfl⟩
    refine (ACode_region ?_)
    refine AOps_q 44 _ rfl rfl rfl (QOp_add _ _ _ _ _ _ _ rfl rfl rfl) ?_
    refine kN 1 rfl ?_
    exact ⟨k0, _, _, Nat.lt_succ_self _, Weak_keep 0 hm [0, 22, 23] [] _ _ rfl rfl rfl, _, rfl, rfl, h⟩
   refine ACode_exit ?_
   cases h
   exact ⟨_, rfl, Weak_keep 0 hm [] [] _ _ rfl rfl rfl⟩
 refine kR ?_
 refine kN 1 rfl ?_
 refine ACode_ret ?_
 cases h
 exact ⟨_, _, fun r a w h => ⟨r, h⟩, _, _, [], _, (.cons (ResV_tmp _ _ rfl) .nil), rfl, rfl, rfl, rfl, rfl⟩

-- (*loop.example/g01362/impl.Colouring).code
def impl_Colouring_code (k : Nat) (p0 : Col) (p1 : Option (Bool)) : Option (Int) :=
 (impl_Colouring_isColouring k p0).bind fun r1 => (if !r1 then some 1 else (p1).bind fun r3 => (if !r3 then some 2 else some 0))
set_option maxRecDepth 100000 in
theorem impl_Colouring_code_ac (k : Nat) (p0 : Col) (p1 : Option (Bool)) (g_p1 : FuncId) (c_p1 : List D) (hg_p1 : ∀ args w, (callFunc g_p1 args).run Try.prog w = .ok (.enter g_p1 args) w) (hf_p1 : ∀ (r : Bool), p1 = some r → AC Try.prog g_p1 ([] ++ c_p1.map AV.d) [] (fun res H' => res = [bV r] ∧ H' = [])) (r : Int) (h : impl_Colouring_code k p0 p1 = some r) : AC Try.prog 47 [.d (.pv (colD p0) 0), .d (.clo g_p1 c_p1)] [] (fun res H' => res = [iV r] ∧ H' = []) := by
 refine AC_of_body true Try.func47 rfl Try.ntmps47 (rvs := [.tmp 4]) rfl rfl (fun G hG => ?_)
 have hm : G.H.length = 0 := by rw [hG]; rfl
 have hz : zeroG G.H = true := by rw [hG]; rfl
 unfold impl_Colouring_code at h
 refine kR ?_
 refine kN 1 rfl ?_
 refine ACode_seq ?_
 refine ACode_block ?_
 refine kR ?_
 refine kM 1 rfl ?_
 obtain ⟨r1, hr1, h⟩ := bindO h
 refine kC [] 7 (bV r1) [] rfl Try.call98 rfl rfl (impl_Colouring_isColouring_ac k p0 _ hr1) rfl ?_
 refine AOps_q 8 _ rfl rfl rfl (QOp_not _ _ _ rfl rfl) ?_
 refine kN 1 rfl ?_
 refine kI h rfl (fun h _ => ?_) (fun h _ => ?_)
 ·refine kR ?_
  refine kN 1 rfl ?_
  refine ACode_ret ?_
  cases h
  exact ⟨_, _, fun r a w h => ⟨r, h⟩, _, _, [], _, (.cons (ResV_tmp _ _ rfl) .nil), rfl, rfl, rfl, rfl, rfl⟩
 refine kR ?_
 refine kM 1 rfl ?_
 obtain ⟨r3, hr3, h⟩ := bindO h
 refine kC [] 11 (bV r3) [] rfl hg_p1 rfl (viewA_mapD _) (hf_p1 _ hr3) rfl ?_
 refine AOps_q 12 _ rfl rfl rfl (QOp_not _ _ _ rfl rfl) ?_
 refine kN 1 rfl ?_
 refine kI h rfl (fun h _ => ?_) (fun h _ => ?_)
 ·refine kR ?_
  refine kN 1 rfl ?_
  refine ACode_ret ?_
  cases h
  exact ⟨_, _, fun r a w h => ⟨r, h⟩, _, _, [], _, (.cons (ResV_tmp _ _ rfl) .nil), rfl, rfl, rfl, rfl, rfl⟩
 refine ACode_skip ?_
 refine kR ?_
 refine kN 1 rfl ?_
 refine ACode_ret ?_
 cases h
 exact ⟨_, _, fun r a w h => ⟨r, h⟩, _, _, [], _, (.cons (ResV_tmp _ _ rfl) .nil), rfl, rfl, rfl, rfl, rfl⟩

-- (*loop.example/g01362/impl.Colouring).has
def impl_Colouring_has (p0 : Col) (p1 : Int) : Bool :=
 (impl_in p1 0 (w64 (p0.p - 1)))
set_option maxRecDepth 100000 in
theorem impl_Colouring_has_ac (p0 : Col) (p1 : Int) : AC Try.prog 49 [.d (.pv (colD p0) 0), iV p1] [] (fun res H' => res = [bV (impl_Colouring_has p0 p1)] ∧ H' = []) := by
 refine AC_of_body true Try.func49 rfl Try.ntmps49 (rvs := [.tmp 4]) rfl rfl (fun G hG => ?_)
 have hm : G.H.length = 0 := by rw [hG]; rfl
 have hz : zeroG G.H = true := by rw [hG]; rfl
 obtain ⟨r, h⟩ : ∃ r, impl_Colouring_has p0 p1 = r := ⟨_, rfl⟩
 rw [h]
 unfold impl_Colouring_has at h
 refine kR ?_
 refine kN 1 rfl ?_
 refine kR ?_
 refine kM 2 rfl ?_
 refine AOps_q 7 _ rfl rfl rfl (QOp_nilCheck_pv _ _ _ rfl rfl) ?_
 refine AOps_q 8 _ rfl rfl rfl (QOp_fieldAddr_pv _ _ _ _ _ 0 _ _ rfl Try.underlying29 rfl _ Try.sizeOf2 rfl rfl) ?_
 refine AOps_q 9 _ rfl rfl rfl (QOp_load_pv _ _ _ _ _ rfl Try.isAgg2 rfl rfl) ?_
 refine AOps_q 10 _ rfl rfl rfl (QOp_sub _ _ _ _ _ _ _ rfl rfl rfl) ?_
 refine kC [] 11 (bV (impl_in p1 0 (w64 (p0.p - 1)))) [] rfl Try.call37 rfl rfl (impl_in_ac p1 0 (w64 (p0.p - 1))) rfl ?_
 refine kN 1 rfl ?_
 refine ACode_ret ?_
 cases h
 exact ⟨_, _, fun r a w h => ⟨r, h⟩, _, _, [], _, (.cons (ResV_tmp _ _ rfl) .nil), rfl, rfl, rfl, rfl, rfl⟩

-- (*loop.example/g01362/impl.Colouring).isSet
def impl_Colouring_isSet_l0 (p0 : Col) (p1 : List Int) : Nat → Int → Option (Sum (Unit) (Bool))
 | 0, _ => none
 | k0 + 1, x1 => (if decide (x1 < (p1.length : Int)) then ((if 0 ≤ x1 ∧ x1 < (p1.length : Int) then ((if !(impl_Colouring_has p0 (p1.getD x1.toNat 0)) then some true else (if decide (0 < x1) then (if 0 ≤ w64 (x1 - 1) ∧ w64 (x1 - 1) < (p1.length : Int) then some (decide ((p1.getD x1.toNat 0) ≤ (p1.getD (w64 (x1 - 1)).toNat 0))) else none) else some false)) : Option (Bool)).bind fun s8 => (if s8 then (some (.inr false)).bind fun rr => some (.inr rr) else some (.inl ())) else none) : Option (Sum (Unit) (Sum (Unit) (Bool)))).bind fun os10 => (match os10 with | .inl s10 => impl_Colouring_isSet_l0 p0 p1 k0 (w64 (x1 + 1)) | .inr rr => some rr) else some (.inl ()))
def impl_Colouring_isSet (k : Nat) (p0 : Col) (p1 : List Int) : Option (Bool) :=
 (impl_Colouring_isSet_l0 p0 p1 k 0 : Option (Sum (Unit) (Bool))).bind fun os11 => (match os11 with | .inl s11 => some true | .inr rr => some rr)
set_option maxRecDepth 100000 in
theorem impl_Colouring_isSet_ac (k : Nat) (p0 : Col) (p1 : List Int) (r : Bool) (h : impl_Colouring_isSet k p0 p1 = some r) : AC Try.prog 76 [.d (.pv (colD p0) 0), .d (.sl none (intsD p1))] [] (fun res H' => res = [bV r] ∧ H' = []) := by
 refine AC_of_body true Try.func76 rfl Try.ntmps76 (rvs := [.tmp 4]) rfl rfl (fun G hG => ?_)
 have hm : G.H.length = 0 := by rw [hG]; rfl
 have hz : zeroG G.H = true := by rw [hG]; rfl
 unfold impl_Colouring_isSet at h
 refine kR ?_
 refine kN 1 rfl ?_
 refine kO (fun s11 => []) (fun s11 => []) h (fun os11 h hks11 => ?_) (fun s11 h => ?_)
 ·refine kR ?_
  refine kM 1 rfl ?_
  refine AOps_q 8 _ rfl rfl rfl (QOp_len_sl _ _ _ _ _ _ _ (intsD_length _) rfl rfl rfl rfl Try.underlying24 rfl) ?_
  refine kN 1 rfl ?_
  refine ACode_block ?_
  refine ACode_loopW (fun k0 E H => ∃ (x1 : Int), E = [(0, .d (.pv (colD p0) 0)), (1, .d (.sl none (intsD p1))), (7, .d (.sl none (intsD p1))), (8, iV (p1.length : Int)), (9, iV x1)] ∧ H = [] ∧ impl_Colouring_isSet_l0 p0 p1 k0 x1 = some os11) k _ _ (Weak_keep 0 hm [0, 1, 7, 8, 9] [] _ _ rfl rfl rfl) ⟨_, rfl, rfl, h⟩ ?_
  clear h
  rintro k0 E H ⟨x1, rfl, rfl, h⟩
  cases k0 with
  | zero => cases (show (none : Option (Sum (Unit) (Bool))) = some _ from h)
  | succ k0 =>
   rw [impl_Colouring_isSet_l0] at h
   refine kR ?_
   refine AOps_q 10 _ rfl rfl rfl (QOp_lss _ _ _ _ _ _ _ rfl rfl rfl) ?_
   refine AOps_nil ?_
   refine ACode_seq ?_
   refine kI h rfl (fun h _ => ?_) (fun h _ => ?_)
   ·refine ACode_skip ?_
    refine kO (fun s10 => [(0, .d (.pv (colD p0) 0)), (1, .d (.sl none (intsD p1))), (7, .d (.sl none (intsD p1))), (8, iV (p1.length : Int)), (9, iV x1)]) (fun s10 => []) h (fun os10 h hks10 => ?_) (fun s10 h => ?_)
    ·refine ACode_block ?_
     refine kR ?_
     refine kM 1 rfl ?_
     obtain ⟨hc3, h⟩ := guardO h
     refine AOps_q 12 _ rfl rfl rfl (QOp_indexAddr_sl _ _ _ _ _ _ _ _ rfl Try.underlying24 Try.sizeOf2 hc3.1 (by rw [intsD_length]; exact hc3.2) rfl rfl) ?_
     refine AOps_q 13 _ rfl rfl rfl (QOp_load_pv _ _ _ _ _ rfl Try.isAgg2 rfl (intsD_get _ _ 0 (by omega))) ?_
     refine kN 2 rfl ?_
     refine kB (fun s8 => [(0, .d (.pv (colD p0) 0)), (1, .d (.sl none (intsD p1))), (7, .d (.sl none (intsD p1))), (8, iV (p1.length : Int)), (9, iV x1), (30, bV s8)]) (fun s8 => []) h (fun s8 h => ?_) (fun s8 h => ?_)
     ·refine (ACode_region ?_)
      refine kM 2 rfl ?_
      refine kC [] 16 (bV (impl_Colouring_has p0 (p1.getD x1.toNat 0))) [] rfl Try.call49 rfl rfl (impl_Colouring_has_ac p0 (p1.getD x1.toNat 0)) rfl ?_
      refine AOps_q 17 _ rfl rfl rfl (QOp_not _ _ _ rfl rfl) ?_
      refine kM 1 rfl ?_
      refine AOps_case 18 _ rfl (fun hb5 => ?_) (fun hb5 => ?_)
      ·have h := iteT hb5 h
       refine AOps_skip 19 rfl rfl rfl ?_
       refine AOps_skip 20 rfl rfl rfl ?_
       refine AOps_skip 21 rfl rfl rfl ?_
       refine AOps_skip 22 rfl rfl rfl ?_
       refine AOps_skip 23 rfl rfl rfl ?_
       refine AOps_skip 24 rfl rfl rfl ?_
       refine AOps_skip 25 rfl rfl rfl ?_
       refine AOps_skip 26 rfl rfl rfl ?_
       refine AOps_skip 27 rfl rfl rfl ?_
       refine AOps_skip 28 rfl rfl rfl ?_
       refine AOps_skip 29 rfl rfl rfl ?_
       refine kN 1 rfl ?_
       cases h
       exact Weak_keep 0 hm [0, 1, 7, 8, 9, 30] [] _ _ rfl rfl rfl
      have h := iteF hb5 h
      refine kM 1 rfl ?_
      refine AOps_q 20 _ rfl rfl rfl (QOp_gtr _ _ _ _ _ _ _ rfl rfl rfl) ?_
      refine kM 1 rfl ?_
      refine AOps_case 21 _ rfl (fun hb6 => ?_) (fun hb6 => ?_)
      ·have h := iteT hb6 h
       refine kM 2 rfl ?_
       refine AOps_q 24 _ rfl rfl rfl (QOp_sub _ _ _ _ _ _ _ rfl rfl rfl) ?_
       obtain ⟨hc7, h⟩ := guardO h
       refine AOps_q 25 _ rfl rfl rfl (QOp_indexAddr_sl _ _ _ _ _ _ _ _ rfl Try.underlying24 Try.sizeOf2 hc7.1 (by rw [intsD_length]; exact hc7.2) rfl rfl) ?_
       refine AOps_q 26 _ rfl rfl rfl (QOp_load_pv _ _ _ _ _ rfl Try.isAgg2 rfl (intsD_get _ _ 0 (by omega))) ?_
       refine kM 1 rfl ?_
       refine AOps_q 28 _ rfl rfl rfl (QOp_geq _ _ _ _ _ _ _ rfl rfl rfl) ?_
       refine kN 2 rfl ?_
       cases h
       exact Weak_keep 0 hm [0, 1, 7, 8, 9, 30] [] _ _ rfl rfl rfl
      have h := iteF hb6 h
      refine AOps_skip 22 rfl rfl rfl ?_
      refine AOps_skip 23 rfl rfl rfl ?_
      refine AOps_skip 24 rfl rfl rfl ?_
      refine AOps_skip 25 rfl rfl rfl ?_
      refine AOps_skip 26 rfl rfl rfl ?_
      refine AOps_skip 27 rfl rfl rfl ?_
      refine AOps_skip 28 rfl rfl rfl ?_
      refine kN 2 rfl ?_
      cases h
      exact Weak_keep 0 hm [0, 1, 7, 8, 9, 30] [] _ _ rfl rfl rfl
     refine kI h rfl (fun h _ => ?_) (fun h _ => ?_)
     ·refine kR ?_
      refine kN 1 rfl ?_
      refine ACode_ret ?_
      obtain ⟨rr, hz12, h2⟩ := bindO h
      obtain rfl := Option.some.inj h2
      obtain rfl := Option.some.inj (show some rr = some _ from hks10)
      have h := hz12
      cases h
      have h := hks11
      cases h
      exact ⟨_, _, fun r a w h => ⟨r, h⟩, _, _, [], _, (.cons (ResV_tmp _ _ rfl) .nil), rfl, rfl, rfl, rfl, rfl⟩
     refine ACode_skip ?_
     cases h
     exact ⟨_, rfl, Weak_keep 0 hm [0, 1, 7, 8, 9] [] _ _ rfl rfl rfl⟩
    refine (ACode_region ?_)
    refine AOps_q 31 _ rfl rfl rfl (QOp_add _ _ _ _ _ _ _ rfl rfl rfl) ?_
    refine kN 1 rfl ?_
    exact ⟨k0, _, _, Nat.lt_succ_self _, Weak_keep 0 hm [0, 1, 7, 8, 9] [] _ _ rfl rfl rfl, _, rfl, rfl, h⟩
   refine ACode_exit ?_
   cases h
   exact ⟨_, rfl, Weak_keep 0 hm [] [] _ _ rfl rfl rfl⟩
 refine kR ?_
 refine kN 1 rfl ?_
 refine ACode_ret ?_
 cases h
 exact ⟨_, _, fun r a w h => ⟨r, h⟩, _, _, [], _, (.cons (ResV_tmp _ _ rfl) .nil), rfl, rfl, rfl, rfl, rfl⟩

-- loop.example/g01362/impl.IsLesserColoured$1
def impl_IsLesserColoured_c1 (k : Nat) (p0 : Col) (p1 : List Int) : Option (Bool) :=
 (impl_Colouring_isSet k p0 p1).bind fun r1 => some r1
set_option maxRecDepth 100000 in
theorem impl_IsLesserColoured_c1_ac (k : Nat) (p0 : Col) (p1 : List Int) (r : Bool) (h : impl_IsLesserColoured_c1 k p0 p1 = some r) : AC Try.prog 75 [.d (.pv (colD p0) 0), .d (.pv ([.sl none (intsD p1)]) 0)] [] (fun res H' => res = [bV r] ∧ H' = []) := by
 refine AC_of_body true Try.func75 rfl Try.ntmps75 (rvs := [.tmp 2]) rfl rfl (fun G hG => ?_)
 have hm : G.H.length = 0 := by rw [hG]; rfl
 have hz : zeroG G.H = true := by rw [hG]; rfl
 unfold impl_IsLesserColoured_c1 at h
 refine kR ?_
 refine kN 1 rfl ?_
 refine kR ?_
 refine AOps_q 3 _ rfl rfl rfl (QOp_load_pv _ _ _ _ _ rfl Try.isAgg24 rfl rfl) ?_
 obtain ⟨r1, hr1, h⟩ := bindO h
 refine kC [] 4 (bV r1) [] rfl Try.call76 rfl rfl (impl_Colouring_isSet_ac k p0 p1 _ hr1) rfl ?_
 refine kN 1 rfl ?_
 refine ACode_ret ?_
 cases h
 exact ⟨_, _, fun r a w h => ⟨r, h⟩, _, _, [], _, (.cons (ResV_tmp _ _ rfl) .nil), rfl, rfl, rfl, rfl, rfl⟩

-- loop.example/g01362/impl.number
def impl_number (p0 : Int) (p1 : Int) : Int :=
 w64 ((w64 ((w64 ((if p0 < p1 then p1 else p0) * (w64 ((if p0 < p1 then p1 else p0) - 1)))).tdiv 2)) + (if p1 < p0 then p1 else p0))
set_option maxRecDepth 100000 in
theorem impl_number_ac (p0 : Int) (p1 : Int) : AC Try.prog 108 [iV p0, iV p1] [] (fun res H' => res = [iV (impl_number p0 p1)] ∧ H' = []) := by
 refine AC_of_body true Try.func108 rfl Try.ntmps108 (rvs := [.tmp 4]) rfl rfl (fun G hG => ?_)
 have hm : G.H.length = 0 := by rw [hG]; rfl
 have hz : zeroG G.H = true := by rw [hG]; rfl
 obtain ⟨r, h⟩ : ∃ r, impl_number p0 p1 = r := ⟨_, rfl⟩
 rw [h]
 unfold impl_number at h
 refine kR ?_
 refine kN 1 rfl ?_
 refine kR ?_
 refine kM 2 rfl ?_
 refine AOps_q 7 _ rfl rfl rfl (QOp_min _ _ _ _ _ _ rfl rfl rfl rfl rfl) ?_
 refine kM 2 rfl ?_
 refine AOps_q 10 _ rfl rfl rfl (QOp_max _ _ _ _ _ _ rfl rfl rfl rfl rfl) ?_
 refine kN 2 rfl ?_
 refine kR ?_
 refine kM 2 rfl ?_
 refine AOps_q 13 _ rfl rfl rfl (QOp_sub _ _ _ _ _ _ _ rfl rfl rfl) ?_
 refine AOps_q 14 _ rfl rfl rfl (QOp_mul _ _ _ _ _ _ _ rfl rfl rfl) ?_
 refine AOps_q 15 _ rfl rfl rfl (QOp_quo _ _ _ _ _ _ _ (by decide) rfl rfl rfl) ?_
 refine kM 1 rfl ?_
 refine AOps_q 17 _ rfl rfl rfl (QOp_add _ _ _ _ _ _ _ rfl rfl rfl) ?_
 refine kN 1 rfl ?_
 refine ACode_ret ?_
 cases h
 exact ⟨_, _, fun r a w h => ⟨r, h⟩, _, _, [], _, (.cons (ResV_tmp _ _ rfl) .nil), rfl, rfl, rfl, rfl, rfl⟩

-- (*loop.example/g01362/impl.Colouring).at
def impl_Colouring_at (p0 : Col) (p1 : Int) (p2 : Int) : Option (Int) :=
 (if 0 ≤ (impl_number p1 p2) ∧ (impl_number p1 p2) < 136 then some ((p0.get ((impl_number p1 p2).toNat)).toNat : Int) else none)
set_option maxRecDepth 100000 in
theorem impl_Colouring_at_ac (p0 : Col) (p1 : Int) (p2 : Int) (r : Int) (h : impl_Colouring_at p0 p1 p2 = some r) : AC Try.prog 63 [.d (.pv (colD p0) 0), iV p1, iV p2] [] (fun res H' => res = [iV r] ∧ H' = []) := by
 refine AC_of_body true Try.func63 rfl Try.ntmps63 (rvs := [.tmp 6]) rfl rfl (fun G hG => ?_)
 have hm : G.H.length = 0 := by rw [hG]; rfl
 have hz : zeroG G.H = true := by rw [hG]; rfl
 unfold impl_Colouring_at at h
 refine kR ?_
 refine kN 1 rfl ?_
 refine ACode_seq (ACode_quiet mixed (by kernel_rfl) ?_)
 refine kQ 3 rfl ?_
 refine AQ_call 10 _ _ _ _ _ _ _ _ _ rfl rfl rfl rfl rfl rfl rfl Try.call108 rfl rfl rfl (impl_number_ac p1 p2) ?_
 refine AQ_q 11 _ rfl rfl rfl (QOp_nilCheck_pv _ _ _ rfl rfl) ?_
 refine AQ_q 12 _ rfl rfl rfl (QOp_fieldAddr_pv _ _ _ _ _ 2 _ _ rfl Try.underlying29 rfl _ Try.sizeOf27 rfl rfl) ?_
 obtain ⟨hc2, h⟩ := guardO h
 refine AQ_q 13 _ rfl rfl rfl (QOp_indexAddrA_pv _ _ _ _ _ _ _ _ _ rfl Try.underlying27 Try.sizeOf5 hc2.1 hc2.2 rfl rfl) ?_
 refine AQ_q 14 _ rfl rfl rfl (QOp_load_pv _ _ _ _ _ rfl Try.isAgg5 rfl (colD_get _ _ (by omega))) ?_
 refine AQ_q 15 _ rfl rfl rfl (QOp_fromByte _ _ _ _ _ rfl rfl Try.underlying2 wrap_i64_byte rfl) ?_
 refine kQ 1 rfl ?_
 refine AQ_nil ?_
 refine ACode_ret ?_
 cases h
 exact ⟨_, _, fun r a w h => ⟨r, h⟩, _, _, [], _, (.cons (ResV_tmp _ _ rfl) .nil), rfl, rfl, rfl, rfl, rfl⟩

-- loop.example/g01362/impl.IsLesserColoured
def impl_IsLesserColoured_l1 (p0 : Col) (p1 : List Int) (x3 : Int) : Nat → Int → Option (Sum (Unit) (Sum (Unit) (Bool × Int)))
 | 0, _ => none
 | k1 + 1, x7 => (if decide (x7 < (((p1.take p1.length).drop (w64 (x3 + 1)).toNat).length : Int)) then (if 0 ≤ x7 ∧ x7 < (((p1.take p1.length).drop (w64 (x3 + 1)).toNat).length : Int) then (impl_Colouring_at p0 (p1.getD x3.toNat 0) (((p1.take p1.length).drop (w64 (x3 + 1)).toNat).getD x7.toNat 0)).bind fun r10 => (if 0 ≤ w64 (x3 + 1) ∧ w64 (x3 + 1) < (p1.length : Int) then (impl_Colouring_at p0 (p1.getD x3.toNat 0) (p1.getD (w64 (x3 + 1)).toNat 0)).bind fun r12 => (if !decide (r10 = r12) then (some (.inr (false, 0))).bind fun rr => some (.inr rr) else impl_IsLesserColoured_l1 p0 p1 x3 k1 (w64 (x7 + 1))) else none) else none) else some (.inl ()))
def impl_IsLesserColoured_l0 (k : Nat) (p0 : Col) (p1 : List Int) : Nat → Int → Option (Sum (Unit) (Bool × Int))
 | 0, _ => none
 | k0 + 1, x3 => (if decide (x3 < (p1.length : Int)) then ((if 0 ≤ x3 ∧ x3 < (p1.length : Int) then (if 0 ≤ w64 (x3 + 1) ∧ w64 (x3 + 1) ≤ (p1.length : Int) ∧ (p1.length : Int) ≤ (p1.length : Int) then impl_IsLesserColoured_l1 p0 p1 x3 k 0 else none) else none) : Option (Sum (Unit) (Sum (Unit) (Bool × Int)))).bind fun os14 => (match os14 with | .inl s14 => impl_IsLesserColoured_l0 k p0 p1 k0 (w64 (x3 + 1)) | .inr rr => some rr) else some (.inl ()))
def impl_IsLesserColoured (k : Nat) (p0 : Col) (p1 : List Int) : Option (Bool × Int) :=
 (impl_Colouring_code k p0 (impl_IsLesserColoured_c1 k p0 p1)).bind fun r1 => (if !decide (r1 = 0) then some (false, r1) else (impl_IsLesserColoured_l0 k p0 p1 k 0 : Option (Sum (Unit) (Bool × Int))).bind fun os15 => (match os15 with | .inl s15 => some (true, 0) | .inr rr => some rr))
set_option maxRecDepth 100000 in
theorem impl_IsLesserColoured_ac (k : Nat) (p0 : Col) (p1 : List Int) (r : Bool × Int) (h : impl_IsLesserColoured k p0 p1 = some r) : AC Try.prog 21 [.d (.agg (colD p0)), .d (.sl none (intsD p1))] [] (fun res H' => res = [bV r.1, iV r.2] ∧ H' = []) := by
 refine AC_of_body true Try.func21 rfl Try.ntmps21 (rvs := [.tmp 4, .tmp 5]) rfl rfl (fun G hG => ?_)
 have hm : G.H.length = 0 := by rw [hG]; rfl
 have hz : zeroG G.H = true := by rw [hG]; rfl
 unfold impl_IsLesserColoured at h
 refine kR ?_
 refine AOps_boxI 2 _ _ (.agg (colD p0)) (colD p0) rfl (colD_one _) rfl rfl rfl rfl rfl ?_
 refine AOps_boxI 3 _ _ (.sl none (intsD p1)) _ rfl (fun c hc => by cases hc with | head => rfl | tail _ h => cases h) rfl rfl rfl rfl rfl ?_
 refine kN 2 rfl ?_
 refine ACode_seq ?_
 refine kR ?_
 refine AOps_q 11 _ rfl rfl rfl (QOp_makeFuncD _ _ _ _ rfl rfl rfl) ?_
 obtain ⟨r1, hr1, h⟩ := bindO h
 refine kC [] 12 (iV r1) [] rfl Try.call47 rfl rfl (impl_Colouring_code_ac k p0 (impl_IsLesserColoured_c1 k p0 p1) 75 ([.pv (colD p0) 0, .pv ([.sl none (intsD p1)]) 0]) Try.call75 (fun r h => impl_IsLesserColoured_c1_ac k p0 p1 r h) _ hr1) rfl ?_
 refine kN 1 rfl ?_
 refine kR ?_
 refine kM 1 rfl ?_
 refine AOps_q 14 _ rfl rfl rfl (QOp_neq _ _ _ _ _ _ _ rfl rfl rfl) ?_
 refine AOps_nil ?_
 refine kI h rfl (fun h _ => ?_) (fun h _ => ?_)
 ·refine kR ?_
  refine kN 3 rfl ?_
  refine ACode_ret ?_
  cases h
  exact ⟨_, _, fun r a w h => ⟨r, h⟩, _, _, [], _, (.cons (ResV_tmp _ _ rfl) (.cons (ResV_tmp _ _ rfl) .nil)), rfl, rfl, rfl, rfl, rfl⟩
 refine ACode_skip ?_
 refine kO (fun s15 => []) (fun s15 => []) h (fun os15 h hks15 => ?_) (fun s15 h => ?_)
 ·refine kR ?_
  refine AOps_q 16 _ rfl rfl rfl (QOp_load_pv _ _ _ _ _ rfl Try.isAgg24 rfl rfl) ?_
  refine AOps_q 17 _ rfl rfl rfl (QOp_len_sl _ _ _ _ _ _ _ (intsD_length _) rfl rfl rfl rfl Try.underlying24 rfl) ?_
  refine kN 1 rfl ?_
  refine ACode_block ?_
  refine ACode_loopW (fun k0 E H => ∃ (x3 : Int), E = [(2, .d (.pv (colD p0) 0)), (3, .d (.pv ([.sl none (intsD p1)]) 0)), (16, .d (.sl none (intsD p1))), (17, iV (p1.length : Int)), (18, iV x3)] ∧ H = [] ∧ impl_IsLesserColoured_l0 k p0 p1 k0 x3 = some os15) k _ _ (Weak_keep 0 hm [2, 3, 16, 17, 18] [] _ _ rfl rfl rfl) ⟨_, rfl, rfl, h⟩ ?_
  clear h
  rintro k0 E H ⟨x3, rfl, rfl, h⟩
  cases k0 with
  | zero => cases (show (none : Option (Sum (Unit) (Bool × Int))) = some _ from h)
  | succ k0 =>
   rw [impl_IsLesserColoured_l0] at h
   refine kR ?_
   refine AOps_q 19 _ rfl rfl rfl (QOp_lss _ _ _ _ _ _ _ rfl rfl rfl) ?_
   refine AOps_nil ?_
   refine ACode_seq ?_
   refine kI h rfl (fun h _ => ?_) (fun h _ => ?_)
   ·refine ACode_skip ?_
    refine kO (fun s14 => [(2, .d (.pv (colD p0) 0)), (3, .d (.pv ([.sl none (intsD p1)]) 0)), (16, .d (.sl none (intsD p1))), (17, iV (p1.length : Int)), (18, iV x3)]) (fun s14 => []) h (fun os14 h hks14 => ?_) (fun s14 h => ?_)
    ·refine ACode_block ?_
     refine kR ?_
     refine kM 1 rfl ?_
     obtain ⟨hc5, h⟩ := guardO h
     refine AOps_q 21 _ rfl rfl rfl (QOp_indexAddr_sl _ _ _ _ _ _ _ _ rfl Try.underlying24 Try.sizeOf2 hc5.1 (by rw [intsD_length]; exact hc5.2) rfl rfl) ?_
     refine AOps_q 22 _ rfl rfl rfl (QOp_load_pv _ _ _ _ _ rfl Try.isAgg2 rfl (intsD_get _ _ 0 (by omega))) ?_
     refine kN 2 rfl ?_
     refine kR ?_
     refine AOps_q 23 _ rfl rfl rfl (QOp_load_pv _ _ _ _ _ rfl Try.isAgg24 rfl rfl) ?_
     refine kM 1 rfl ?_
     refine AOps_q 25 _ rfl rfl rfl (QOp_add _ _ _ _ _ _ _ rfl rfl rfl) ?_
     obtain ⟨hc6, h⟩ := guardO h
     refine AOps_q 26 _ rfl rfl rfl (QOp_slice_sl _ _ _ _ _ _ _ _ ((w64 (x3 + 1)).toNat) (p1.length) rfl Try.underlying24 Try.sizeOf2 rfl ⟨_, by rw [Int.toNat_of_nonneg (by omega)]; rfl⟩ (by rw [intsD_length]) (by omega) (by rw [intsD_length]; omega) (intsD_part _ _ _)) ?_
     refine AOps_q 27 _ rfl rfl rfl (QOp_len_sl _ _ _ _ _ _ _ (intsD_length _) rfl rfl rfl rfl Try.underlying24 rfl) ?_
     refine kN 1 rfl ?_
     refine ACode_block ?_
     refine ACode_loopW (fun k1 E H => ∃ (x7 : Int), E = [(2, .d (.pv (colD p0) 0)), (3, .d (.pv ([.sl none (intsD p1)]) 0)), (7, iV x3), (8, iV (p1.getD x3.toNat 0)), (16, .d (.sl none (intsD p1))), (17, iV (p1.length : Int)), (18, iV x3), (26, .d (.sl none (intsD ((p1.take p1.length).drop (w64 (x3 + 1)).toNat)))), (27, iV (((p1.take p1.length).drop (w64 (x3 + 1)).toNat).length : Int)), (28, iV x7)] ∧ H = [] ∧ impl_IsLesserColoured_l1 p0 p1 x3 k1 x7 = some os14) k _ _ (Weak_keep 0 hm [2, 3, 7, 8, 16, 17, 18, 26, 27, 28] [] _ _ rfl rfl rfl) ⟨_, rfl, rfl, h⟩ ?_
     clear h
     rintro k1 E H ⟨x7, rfl, rfl, h⟩
     cases k1 with
     | zero => cases (show (none : Option (Sum (Unit) (Sum (Unit) (Bool × Int)))) = some _ from h)
     | succ k1 =>
      rw [impl_IsLesserColoured_l1] at h
      refine kR ?_
      refine AOps_q 29 _ rfl rfl rfl (QOp_lss _ _ _ _ _ _ _ rfl rfl rfl) ?_
      refine AOps_nil ?_
      refine ACode_seq ?_
      refine kI h rfl (fun h _ => ?_) (fun h _ => ?_)
      ·refine ACode_skip ?_
       refine ACode_seq ?_
       refine ACode_block ?_
       refine kR ?_
       obtain ⟨hc9, h⟩ := guardO h
       refine AOps_q 30 _ rfl rfl rfl (QOp_indexAddr_sl _ _ _ _ _ _ _ _ rfl Try.underlying24 Try.sizeOf2 hc9.1 (by rw [intsD_length]; exact hc9.2) rfl rfl) ?_
       refine AOps_q 31 _ rfl rfl rfl (QOp_load_pv _ _ _ _ _ rfl Try.isAgg2 rfl (intsD_get _ _ 0 (by omega))) ?_
       refine kN 1 rfl ?_
       refine ACode_seq (ACode_quiet mixed (by kernel_rfl) ?_)
       refine kQ 2 rfl ?_
       obtain ⟨r10, hr10, h⟩ := bindO h
       refine AQ_call 34 _ _ _ _ _ _ _ _ _ rfl rfl rfl rfl rfl rfl rfl Try.call63 rfl rfl rfl (impl_Colouring_at_ac p0 (p1.getD x3.toNat 0) (((p1.take p1.length).drop (w64 (x3 + 1)).toNat).getD x7.toNat 0) _ hr10) ?_
       refine kQ 1 rfl ?_
       refine AQ_q 36 _ rfl rfl rfl (QOp_load_pv _ _ _ _ _ rfl Try.isAgg24 rfl rfl) ?_
       refine kQ 1 rfl ?_
       refine AQ_q 38 _ rfl rfl rfl (QOp_add _ _ _ _ _ _ _ rfl rfl rfl) ?_
       obtain ⟨hc11, h⟩ := guardO h
       refine AQ_q 39 _ rfl rfl rfl (QOp_indexAddr_sl _ _ _ _ _ _ _ _ rfl Try.underlying24 Try.sizeOf2 hc11.1 (by rw [intsD_length]; exact hc11.2) rfl rfl) ?_
       refine AQ_q 40 _ rfl rfl rfl (QOp_load_pv _ _ _ _ _ rfl Try.isAgg2 rfl (intsD_get _ _ 0 (by omega))) ?_
       obtain ⟨r12, hr12, h⟩ := bindO h
       refine AQ_call 41 _ _ _ _ _ _ _ _ _ rfl rfl rfl rfl rfl rfl rfl Try.call63 rfl rfl rfl (impl_Colouring_at_ac p0 (p1.getD x3.toNat 0) (p1.getD (w64 (x3 + 1)).toNat 0) _ hr12) ?_
       refine AQ_q 42 _ rfl rfl rfl (QOp_neq _ _ _ _ _ _ _ rfl rfl rfl) ?_
       refine AQ_nil ?_
       refine kI h rfl (fun h _ => ?_) (fun h _ => ?_)
       ·refine kR ?_
        refine kN 2 rfl ?_
        refine ACode_ret ?_
        obtain ⟨rr, hz16, h2⟩ := bindO h
        obtain rfl := Option.some.inj h2
        obtain rfl := Option.some.inj (show some rr = some _ from hks14)
        have h := hz16
        cases h
        have h := hks15
        cases h
        exact ⟨_, _, fun r a w h => ⟨r, h⟩, _, _, [], _, (.cons (ResV_tmp _ _ rfl) (.cons (ResV_tmp _ _ rfl) .nil)), rfl, rfl, rfl, rfl, rfl⟩
       refine ACode_skip ?_
       refine (ACode_region ?_)
       refine AOps_q 43 _ rfl rfl rfl (QOp_add _ _ _ _ _ _ _ rfl rfl rfl) ?_
       refine kN 1 rfl ?_
       exact ⟨k1, _, _, Nat.lt_succ_self _, Weak_keep 0 hm [2, 3, 7, 8, 16, 17, 18, 26, 27, 28] [] _ _ rfl rfl rfl, _, rfl, rfl, h⟩
      refine ACode_exit ?_
      cases h
      exact ⟨_, rfl, Weak_keep 0 hm [2, 3, 16, 17, 18] [] _ _ rfl rfl rfl⟩
    refine (ACode_region ?_)
    refine AOps_q 44 _ rfl rfl rfl (QOp_add _ _ _ _ _ _ _ rfl rfl rfl) ?_
    refine kN 1 rfl ?_
    exact ⟨k0, _, _, Nat.lt_succ_self _, Weak_keep 0 hm [2, 3, 16, 17, 18] [] _ _ rfl rfl rfl, _, rfl, rfl, h⟩
   refine ACode_exit ?_
   cases h
   exact ⟨_, rfl, Weak_keep 0 hm [] [] _ _ rfl rfl rfl⟩
 refine kR ?_
 refine kN 2 rfl ?_
 refine ACode_ret ?_
 cases h
 exact ⟨_, _, fun r a w h => ⟨r, h⟩, _, _, [], _, (.cons (ResV_tmp _ _ rfl) (.cons (ResV_tmp _ _ rfl) .nil)), rfl, rfl, rfl, rfl, rfl⟩

-- loop.example/g01362/spec.l01All
def spec_l01All_l0 (p0 : List Int) (p1 : Int) : Nat → Int → Option (Sum (Unit) (Bool))
 | 0, _ => none
 | k0 + 1, x1 => (if decide (x1 < (p0.length : Int)) then (if 0 ≤ x1 ∧ x1 < (p0.length : Int) then (if !(spec_l01In (p0.getD x1.toNat 0) 0 (w64 (p1 - 1))) then some (.inr false) else spec_l01All_l0 p0 p1 k0 (w64 (x1 + 1))) else none) else some (.inl ()))
def spec_l01All (k : Nat) (p0 : List Int) (p1 : Int) : Option (Bool) :=
 (spec_l01All_l0 p0 p1 k 0 : Option (Sum (Unit) (Bool))).bind fun os6 => (match os6 with | .inl s6 => some true | .inr rr => some rr)
set_option maxRecDepth 100000 in
theorem spec_l01All_ac (k : Nat) (p0 : List Int) (p1 : Int) (r : Bool) (h : spec_l01All k p0 p1 = some r) : AC Try.prog 135 [.d (.sl none (intsD p0)), iV p1] [] (fun res H' => res = [bV r] ∧ H' = []) := by
 refine AC_of_body true Try.func135 rfl Try.ntmps135 (rvs := [.tmp 4]) rfl rfl (fun G hG => ?_)
 have hm : G.H.length = 0 := by rw [hG]; rfl
 have hz : zeroG G.H = true := by rw [hG]; rfl
 unfold spec_l01All at h
 refine kR ?_
 refine kN 1 rfl ?_
 refine kO (fun s6 => []) (fun s6 => []) h (fun os6 h hks6 => ?_) (fun s6 h => ?_)
 ·refine kR ?_
  refine kN 1 rfl ?_
  refine ACode_block ?_
  refine ACode_loopW (fun k0 E H => ∃ (x1 : Int), E = [(0, .d (.sl none (intsD p0))), (1, iV p1), (5, iV x1)] ∧ H = [] ∧ spec_l01All_l0 p0 p1 k0 x1 = some os6) k _ _ (Weak_keep 0 hm [0, 1, 5] [] _ _ rfl rfl rfl) ⟨_, rfl, rfl, h⟩ ?_
  clear h
  rintro k0 E H ⟨x1, rfl, rfl, h⟩
  cases k0 with
  | zero => cases (show (none : Option (Sum (Unit) (Bool))) = some _ from h)
  | succ k0 =>
   rw [spec_l01All_l0] at h
   refine ACode_seq ?_
   refine kR ?_
   refine kM 2 rfl ?_
   refine AOps_q 8 _ rfl rfl rfl (QOp_len_sl _ _ _ _ _ _ _ (intsD_length _) rfl rfl rfl rfl Try.underlying24 rfl) ?_
   refine AOps_q 9 _ rfl rfl rfl (QOp_lss _ _ _ _ _ _ _ rfl rfl rfl) ?_
   refine AOps_nil ?_
   refine kI h rfl (fun h _ => ?_) (fun h _ => ?_)
   ·refine ACode_skip ?_
    refine ACode_seq ?_
    refine ACode_block ?_
    refine kR ?_
    refine kM 2 rfl ?_
    obtain ⟨hc3, h⟩ := guardO h
    refine AOps_q 14 _ rfl rfl rfl (QOp_indexAddr_sl _ _ _ _ _ _ _ _ rfl Try.underlying24 Try.sizeOf2 hc3.1 (by rw [intsD_length]; exact hc3.2) rfl rfl) ?_
    refine AOps_q 15 _ rfl rfl rfl (QOp_load_pv _ _ _ _ _ rfl Try.isAgg2 rfl (intsD_get _ _ 0 (by omega))) ?_
    refine kM 1 rfl ?_
    refine AOps_q 17 _ rfl rfl rfl (QOp_sub _ _ _ _ _ _ _ rfl rfl rfl) ?_
    refine kC [] 18 (bV (spec_l01In (p0.getD x1.toNat 0) 0 (w64 (p1 - 1)))) [] rfl Try.call40 rfl rfl (spec_l01In_ac (p0.getD x1.toNat 0) 0 (w64 (p1 - 1))) rfl ?_
    refine AOps_q 19 _ rfl rfl rfl (QOp_not _ _ _ rfl rfl) ?_
    refine AOps_nil ?_
    refine kI h rfl (fun h _ => ?_) (fun h _ => ?_)
    ·refine kR ?_
     refine kN 1 rfl ?_
     refine ACode_ret ?_
     cases h
     have h := hks6
     cases h
     exact ⟨_, _, fun r a w h => ⟨r, h⟩, _, _, [], _, (.cons (ResV_tmp _ _ rfl) .nil), rfl, rfl, rfl, rfl, rfl⟩
    refine ACode_skip ?_
    refine (ACode_region ?_)
    refine kM 1 rfl ?_
    refine AOps_q 11 _ rfl rfl rfl (QOp_add _ _ _ _ _ _ _ rfl rfl rfl) ?_
    refine kN 1 rfl ?_
    exact ⟨k0, _, _, Nat.lt_succ_self _, Weak_keep 0 hm [0, 1, 5] [] _ _ rfl rfl rfl, _, rfl, rfl, h⟩
   refine ACode_exit ?_
   cases h
   exact ⟨_, rfl, Weak_keep 0 hm [] [] _ _ rfl rfl rfl⟩
 refine kR ?_
 refine kN 1 rfl ?_
 refine ACode_ret ?_
 cases h
 exact ⟨_, _, fun r a w h => ⟨r, h⟩, _, _, [], _, (.cons (ResV_tmp _ _ rfl) .nil), rfl, rfl, rfl, rfl, rfl⟩

-- loop.example/g01362/spec.l01Given
def spec_l01Given (k : Nat) (p0 : Col) (p1 : Int) (p2 : List Int) : Option (Int) :=
 ((spec_l01Is k p0).bind fun r1 => (if !r1 then some (.inr 1) else ((if !(spec_l01In p1 0 (w64 (p0.k - 1))) then some true else (spec_l01All k p2 p0.p).bind fun r5 => some (!r5)) : Option (Bool)).bind fun s6 => (if s6 then some (.inr 2) else some (.inl ()))) : Option (Sum (Unit) (Int))).bind fun os8 => (match os8 with | .inl s8 => some 0 | .inr rr => some rr)
set_option maxRecDepth 100000 in
theorem spec_l01Given_ac (k : Nat) (p0 : Col) (p1 : Int) (p2 : List Int) (r : Int) (h : spec_l01Given k p0 p1 p2 = some r) : AC Try.prog 113 [.d (.agg (colD p0)), iV p1, .d (.sl none (intsD p2))] [] (fun res H' => res = [iV r] ∧ H' = []) := by
 refine AC_of_body true Try.func113 rfl Try.ntmps113 (rvs := [.tmp 6]) rfl rfl (fun G hG => ?_)
 have hm : G.H.length = 0 := by rw [hG]; rfl
 have hz : zeroG G.H = true := by rw [hG]; rfl
 unfold spec_l01Given at h
 refine kR ?_
 refine AOps_boxI 3 _ _ (.agg (colD p0)) (colD p0) rfl (colD_one _) rfl rfl rfl rfl rfl ?_
 refine kN 1 rfl ?_
 refine kO (fun s8 => []) (fun s8 => []) h (fun os8 h hks8 => ?_) (fun s8 h => ?_)
 ·refine ACode_block ?_
  refine kR ?_
  refine AOps_q 8 _ rfl rfl rfl (QOp_loadN_pv _ _ _ _ _ _ rfl Try.isAgg29 Try.sizeOf29 rfl (colD_all _) (colD_length _)) ?_
  obtain ⟨r1, hr1, h⟩ := bindO h
  refine kC [] 9 (bV r1) [] rfl Try.call81 rfl rfl (spec_l01Is_ac k p0 _ hr1) rfl ?_
  refine AOps_q 10 _ rfl rfl rfl (QOp_not _ _ _ rfl rfl) ?_
  refine kN 1 rfl ?_
  refine kI h rfl (fun h _ => ?_) (fun h _ => ?_)
  ·refine kR ?_
   refine kN 1 rfl ?_
   refine ACode_ret ?_
   cases h
   have h := hks8
   cases h
   exact ⟨_, _, fun r a w h => ⟨r, h⟩, _, _, [], _, (.cons (ResV_tmp _ _ rfl) .nil), rfl, rfl, rfl, rfl, rfl⟩
  refine kB (fun s6 => [(11, bV s6)]) (fun s6 => []) h (fun s6 h => ?_) (fun s6 h => ?_)
  ·refine (ACode_region ?_)
   refine kM 1 rfl ?_
   refine AOps_q 13 _ rfl rfl rfl (QOp_fieldAddr_pv _ _ _ _ _ 1 _ _ rfl Try.underlying29 rfl _ Try.sizeOf2 rfl rfl) ?_
   refine AOps_q 14 _ rfl rfl rfl (QOp_load_pv _ _ _ _ _ rfl Try.isAgg2 rfl rfl) ?_
   refine AOps_q 15 _ rfl rfl rfl (QOp_sub _ _ _ _ _ _ _ rfl rfl rfl) ?_
   refine kC [] 16 (bV (spec_l01In p1 0 (w64 (p0.k - 1)))) [] rfl Try.call40 rfl rfl (spec_l01In_ac p1 0 (w64 (p0.k - 1))) rfl ?_
   refine AOps_q 17 _ rfl rfl rfl (QOp_not _ _ _ rfl rfl) ?_
   refine kM 1 rfl ?_
   refine AOps_case 18 _ rfl (fun hb4 => ?_) (fun hb4 => ?_)
   ·have h := iteT hb4 h
    refine AOps_skip 19 rfl rfl rfl ?_
    refine AOps_skip 20 rfl rfl rfl ?_
    refine AOps_skip 21 rfl rfl rfl ?_
    refine AOps_skip 22 rfl rfl rfl ?_
    refine AOps_skip 23 rfl rfl rfl ?_
    refine kN 2 rfl ?_
    cases h
    exact Weak_keep 0 hm [11] [] _ _ rfl rfl rfl
   have h := iteF hb4 h
   refine kM 1 rfl ?_
   refine AOps_q 20 _ rfl rfl rfl (QOp_fieldAddr_pv _ _ _ _ _ 0 _ _ rfl Try.underlying29 rfl _ Try.sizeOf2 rfl rfl) ?_
   refine AOps_q 21 _ rfl rfl rfl (QOp_load_pv _ _ _ _ _ rfl Try.isAgg2 rfl rfl) ?_
   obtain ⟨r5, hr5, h⟩ := bindO h
   refine kC [] 22 (bV r5) [] rfl Try.call135 rfl rfl (spec_l01All_ac k p2 p0.p _ hr5) rfl ?_
   refine AOps_q 23 _ rfl rfl rfl (QOp_not _ _ _ rfl rfl) ?_
   refine kN 2 rfl ?_
   cases h
   exact Weak_keep 0 hm [11] [] _ _ rfl rfl rfl
  refine kI h rfl (fun h _ => ?_) (fun h _ => ?_)
  ·refine kR ?_
   refine kN 1 rfl ?_
   refine ACode_ret ?_
   cases h
   have h := hks8
   cases h
   exact ⟨_, _, fun r a w h => ⟨r, h⟩, _, _, [], _, (.cons (ResV_tmp _ _ rfl) .nil), rfl, rfl, rfl, rfl, rfl⟩
  refine ACode_skip ?_
  cases h
  exact ⟨_, rfl, Weak_keep 0 hm [] [] _ _ rfl rfl rfl⟩
 refine kR ?_
 refine kN 1 rfl ?_
 refine ACode_ret ?_
 cases h
 exact ⟨_, _, fun r a w h => ⟨r, h⟩, _, _, [], _, (.cons (ResV_tmp _ _ rfl) .nil), rfl, rfl, rfl, rfl, rfl⟩

-- loop.example/g01362/spec.l01Set
def spec_l01Set_l0 (p1 : List Int) : Nat → Int → Option (Sum (Unit) (Int))
 | 0, _ => none
 | k0 + 1, x3 => (if decide (x3 < (p1.length : Int)) then (if 0 ≤ x3 ∧ x3 < (p1.length : Int) then (if 0 ≤ w64 (x3 - 1) ∧ w64 (x3 - 1) < (p1.length : Int) then (if decide ((p1.getD x3.toNat 0) ≤ (p1.getD (w64 (x3 - 1)).toNat 0)) then some (.inr 2) else spec_l01Set_l0 p1 k0 (w64 (x3 + 1))) else none) else none) else some (.inl ()))
def spec_l01Set (k : Nat) (p0 : Col) (p1 : List Int) : Option (Int) :=
 (spec_l01Given k p0 0 p1).bind fun r1 => (if !decide (r1 = 0) then some r1 else (spec_l01Set_l0 p1 k 1 : Option (Sum (Unit) (Int))).bind fun os8 => (match os8 with | .inl s8 => some 0 | .inr rr => some rr))
set_option maxRecDepth 100000 in
theorem spec_l01Set_ac (k : Nat) (p0 : Col) (p1 : List Int) (r : Int) (h : spec_l01Set k p0 p1 = some r) : AC Try.prog 77 [.d (.agg (colD p0)), .d (.sl none (intsD p1))] [] (fun res H' => res = [iV r] ∧ H' = []) := by
 refine AC_of_body true Try.func77 rfl Try.ntmps77 (rvs := [.tmp 4]) rfl rfl (fun G hG => ?_)
 have hm : G.H.length = 0 := by rw [hG]; rfl
 have hz : zeroG G.H = true := by rw [hG]; rfl
 unfold spec_l01Set at h
 refine kR ?_
 refine AOps_boxI 2 _ _ (.agg (colD p0)) (colD p0) rfl (colD_one _) rfl rfl rfl rfl rfl ?_
 refine kN 1 rfl ?_
 refine ACode_seq ?_
 refine kR ?_
 refine AOps_q 7 _ rfl rfl rfl (QOp_loadN_pv _ _ _ _ _ _ rfl Try.isAgg29 Try.sizeOf29 rfl (colD_all _) (colD_length _)) ?_
 refine kM 1 rfl ?_
 obtain ⟨r1, hr1, h⟩ := bindO h
 refine kC [] 9 (iV r1) [] rfl Try.call113 rfl rfl (spec_l01Given_ac k p0 0 p1 _ hr1) rfl ?_
 refine kN 1 rfl ?_
 refine kR ?_
 refine kM 1 rfl ?_
 refine AOps_q 11 _ rfl rfl rfl (QOp_neq _ _ _ _ _ _ _ rfl rfl rfl) ?_
 refine AOps_nil ?_
 refine kI h rfl (fun h _ => ?_) (fun h _ => ?_)
 ·refine kR ?_
  refine kN 2 rfl ?_
  refine ACode_ret ?_
  cases h
  exact ⟨_, _, fun r a w h => ⟨r, h⟩, _, _, [], _, (.cons (ResV_tmp _ _ rfl) .nil), rfl, rfl, rfl, rfl, rfl⟩
 refine ACode_skip ?_
 refine kO (fun s8 => []) (fun s8 => []) h (fun os8 h hks8 => ?_) (fun s8 h => ?_)
 ·refine kR ?_
  refine kN 1 rfl ?_
  refine ACode_block ?_
  refine ACode_loopW (fun k0 E H => ∃ (x3 : Int), E = [(1, .d (.sl none (intsD p1))), (6, iV x3)] ∧ H = [] ∧ spec_l01Set_l0 p1 k0 x3 = some os8) k _ _ (Weak_keep 0 hm [1, 6] [] _ _ rfl rfl rfl) ⟨_, rfl, rfl, h⟩ ?_
  clear h
  rintro k0 E H ⟨x3, rfl, rfl, h⟩
  cases k0 with
  | zero => cases (show (none : Option (Sum (Unit) (Int))) = some _ from h)
  | succ k0 =>
   rw [spec_l01Set_l0] at h
   refine ACode_seq ?_
   refine kR ?_
   refine kM 2 rfl ?_
   refine AOps_q 15 _ rfl rfl rfl (QOp_len_sl _ _ _ _ _ _ _ (intsD_length _) rfl rfl rfl rfl Try.underlying24 rfl) ?_
   refine AOps_q 16 _ rfl rfl rfl (QOp_lss _ _ _ _ _ _ _ rfl rfl rfl) ?_
   refine AOps_nil ?_
   refine kI h rfl (fun h _ => ?_) (fun h _ => ?_)
   ·refine ACode_skip ?_
    refine ACode_seq ?_
    refine ACode_block ?_
    refine ACode_seq (ACode_quiet mixed (by kernel_rfl) ?_)
    refine kQ 2 rfl ?_
    obtain ⟨hc5, h⟩ := guardO h
    refine AQ_q 21 _ rfl rfl rfl (QOp_indexAddr_sl _ _ _ _ _ _ _ _ rfl Try.underlying24 Try.sizeOf2 hc5.1 (by rw [intsD_length]; exact hc5.2) rfl rfl) ?_
    refine AQ_q 22 _ rfl rfl rfl (QOp_load_pv _ _ _ _ _ rfl Try.isAgg2 rfl (intsD_get _ _ 0 (by omega))) ?_
    refine kQ 2 rfl ?_
    refine AQ_q 25 _ rfl rfl rfl (QOp_sub _ _ _ _ _ _ _ rfl rfl rfl) ?_
    obtain ⟨hc6, h⟩ := guardO h
    refine AQ_q 26 _ rfl rfl rfl (QOp_indexAddr_sl _ _ _ _ _ _ _ _ rfl Try.underlying24 Try.sizeOf2 hc6.1 (by rw [intsD_length]; exact hc6.2) rfl rfl) ?_
    refine AQ_q 27 _ rfl rfl rfl (QOp_load_pv _ _ _ _ _ rfl Try.isAgg2 rfl (intsD_get _ _ 0 (by omega))) ?_
    refine AQ_q 28 _ rfl rfl rfl (QOp_leq _ _ _ _ _ _ _ rfl rfl rfl) ?_
    refine AQ_nil ?_
    refine kI h rfl (fun h _ => ?_) (fun h _ => ?_)
    ·refine kR ?_
     refine kN 1 rfl ?_
     refine ACode_ret ?_
     cases h
     have h := hks8
     cases h
     exact ⟨_, _, fun r a w h => ⟨r, h⟩, _, _, [], _, (.cons (ResV_tmp _ _ rfl) .nil), rfl, rfl, rfl, rfl, rfl⟩
    refine ACode_skip ?_
    refine (ACode_region ?_)
    refine kM 1 rfl ?_
    refine AOps_q 18 _ rfl rfl rfl (QOp_add _ _ _ _ _ _ _ rfl rfl rfl) ?_
    refine kN 1 rfl ?_
    exact ⟨k0, _, _, Nat.lt_succ_self _, Weak_keep 0 hm [1, 6] [] _ _ rfl rfl rfl, _, rfl, rfl, h⟩
   refine ACode_exit ?_
   cases h
   exact ⟨_, rfl, Weak_keep 0 hm [] [] _ _ rfl rfl rfl⟩
 refine kR ?_
 refine kN 1 rfl ?_
 refine ACode_ret ?_
 cases h
 exact ⟨_, _, fun r a w h => ⟨r, h⟩, _, _, [], _, (.cons (ResV_tmp _ _ rfl) .nil), rfl, rfl, rfl, rfl, rfl⟩

-- loop.example/g01362/spec.l10Lesser
def spec_l10Lesser_l1 (p0 : Col) (p1 : List Int) (x1 : Int) : Nat → Int → Option (Sum (Unit) (Sum (Unit) (Bool)))
 | 0, _ => none
 | k1 + 1, x3 => (if decide (x3 < (p1.length : Int)) then (if 0 ≤ x1 ∧ x1 < (p1.length : Int) then (if 0 ≤ x3 ∧ x3 < (p1.length : Int) then (spec_l01At p0 (p1.getD x1.toNat 0) (p1.getD x3.toNat 0)).bind fun r7 => (if 0 ≤ x1 ∧ x1 < (p1.length : Int) then (if 0 ≤ w64 (x1 + 1) ∧ w64 (x1 + 1) < (p1.length : Int) then (spec_l01At p0 (p1.getD x1.toNat 0) (p1.getD (w64 (x1 + 1)).toNat 0)).bind fun r10 => (if !decide (r7 = r10) then (some (.inr false)).bind fun rr => some (.inr rr) else spec_l10Lesser_l1 p0 p1 x1 k1 (w64 (x3 + 1))) else none) else none) else none) else none) else some (.inl ()))
def spec_l10Lesser_l0 (k : Nat) (p0 : Col) (p1 : List Int) : Nat → Int → Option (Sum (Unit) (Bool))
 | 0, _ => none
 | k0 + 1, x1 => (if decide (x1 < (p1.length : Int)) then (spec_l10Lesser_l1 p0 p1 x1 k (w64 (x1 + 2)) : Option (Sum (Unit) (Sum (Unit) (Bool)))).bind fun os12 => (match os12 with | .inl s12 => spec_l10Lesser_l0 k p0 p1 k0 (w64 (x1 + 1)) | .inr rr => some rr) else some (.inl ()))
def spec_l10Lesser (k : Nat) (p0 : Col) (p1 : List Int) : Option (Bool) :=
 (spec_l10Lesser_l0 k p0 p1 k 0 : Option (Sum (Unit) (Bool))).bind fun os13 => (match os13 with | .inl s13 => some true | .inr rr => some rr)
set_option maxRecDepth 100000 in
theorem spec_l10Lesser_ac (k : Nat) (p0 : Col) (p1 : List Int) (r : Bool) (h : spec_l10Lesser k p0 p1 = some r) : AC Try.prog 78 [.d (.agg (colD p0)), .d (.sl none (intsD p1))] [] (fun res H' => res = [bV r] ∧ H' = []) := by
 refine AC_of_body true Try.func78 rfl Try.ntmps78 (rvs := [.tmp 4]) rfl rfl (fun G hG => ?_)
 have hm : G.H.length = 0 := by rw [hG]; rfl
 have hz : zeroG G.H = true := by rw [hG]; rfl
 unfold spec_l10Lesser at h
 refine kR ?_
 refine AOps_boxI 2 _ _ (.agg (colD p0)) (colD p0) rfl (colD_one _) rfl rfl rfl rfl rfl ?_
 refine kN 1 rfl ?_
 refine kO (fun s13 => []) (fun s13 => []) h (fun os13 h hks13 => ?_) (fun s13 h => ?_)
 ·refine kR ?_
  refine kN 1 rfl ?_
  refine ACode_block ?_
  refine ACode_loopW (fun k0 E H => ∃ (x1 : Int), E = [(1, .d (.sl none (intsD p1))), (2, .d (.pv (colD p0) 0)), (5, iV x1)] ∧ H = [] ∧ spec_l10Lesser_l0 k p0 p1 k0 x1 = some os13) k _ _ (Weak_keep 0 hm [1, 2, 5] [] _ _ rfl rfl rfl) ⟨_, rfl, rfl, h⟩ ?_
  clear h
  rintro k0 E H ⟨x1, rfl, rfl, h⟩
  cases k0 with
  | zero => cases (show (none : Option (Sum (Unit) (Bool))) = some _ from h)
  | succ k0 =>
   rw [spec_l10Lesser_l0] at h
   refine ACode_seq ?_
   refine kR ?_
   refine kM 2 rfl ?_
   refine AOps_q 9 _ rfl rfl rfl (QOp_len_sl _ _ _ _ _ _ _ (intsD_length _) rfl rfl rfl rfl Try.underlying24 rfl) ?_
   refine AOps_q 10 _ rfl rfl rfl (QOp_lss _ _ _ _ _ _ _ rfl rfl rfl) ?_
   refine AOps_nil ?_
   refine kI h rfl (fun h _ => ?_) (fun h _ => ?_)
   ·refine ACode_skip ?_
    refine kO (fun s12 => [(1, .d (.sl none (intsD p1))), (2, .d (.pv (colD p0) 0)), (5, iV x1)]) (fun s12 => []) h (fun os12 h hks12 => ?_) (fun s12 h => ?_)
    ·refine ACode_block ?_
     refine kR ?_
     refine kM 1 rfl ?_
     refine AOps_q 14 _ rfl rfl rfl (QOp_add _ _ _ _ _ _ _ rfl rfl rfl) ?_
     refine kN 1 rfl ?_
     refine ACode_block ?_
     refine ACode_loopW (fun k1 E H => ∃ (x3 : Int), E = [(1, .d (.sl none (intsD p1))), (2, .d (.pv (colD p0) 0)), (5, iV x1), (6, iV x3)] ∧ H = [] ∧ spec_l10Lesser_l1 p0 p1 x1 k1 x3 = some os12) k _ _ (Weak_keep 0 hm [1, 2, 5, 6] [] _ _ rfl rfl rfl) ⟨_, rfl, rfl, h⟩ ?_
     clear h
     rintro k1 E H ⟨x3, rfl, rfl, h⟩
     cases k1 with
     | zero => cases (show (none : Option (Sum (Unit) (Sum (Unit) (Bool)))) = some _ from h)
     | succ k1 =>
      rw [spec_l10Lesser_l1] at h
      refine ACode_seq ?_
      refine kR ?_
      refine kM 2 rfl ?_
      refine AOps_q 17 _ rfl rfl rfl (QOp_len_sl _ _ _ _ _ _ _ (intsD_length _) rfl rfl rfl rfl Try.underlying24 rfl) ?_
      refine AOps_q 18 _ rfl rfl rfl (QOp_lss _ _ _ _ _ _ _ rfl rfl rfl) ?_
      refine AOps_nil ?_
      refine kI h rfl (fun h _ => ?_) (fun h _ => ?_)
      ·refine ACode_skip ?_
       refine ACode_seq ?_
       refine ACode_block ?_
       refine ACode_seq (ACode_quiet mixed (by kernel_rfl) ?_)
       refine AQ_q 21 _ rfl rfl rfl (QOp_loadN_pv _ _ _ _ _ _ rfl Try.isAgg29 Try.sizeOf29 rfl (colD_all _) (colD_length _)) ?_
       refine kQ 2 rfl ?_
       obtain ⟨hc5, h⟩ := guardO h
       refine AQ_q 24 _ rfl rfl rfl (QOp_indexAddr_sl _ _ _ _ _ _ _ _ rfl Try.underlying24 Try.sizeOf2 hc5.1 (by rw [intsD_length]; exact hc5.2) rfl rfl) ?_
       refine AQ_q 25 _ rfl rfl rfl (QOp_load_pv _ _ _ _ _ rfl Try.isAgg2 rfl (intsD_get _ _ 0 (by omega))) ?_
       refine kQ 2 rfl ?_
       obtain ⟨hc6, h⟩ := guardO h
       refine AQ_q 28 _ rfl rfl rfl (QOp_indexAddr_sl _ _ _ _ _ _ _ _ rfl Try.underlying24 Try.sizeOf2 hc6.1 (by rw [intsD_length]; exact hc6.2) rfl rfl) ?_
       refine AQ_q 29 _ rfl rfl rfl (QOp_load_pv _ _ _ _ _ rfl Try.isAgg2 rfl (intsD_get _ _ 0 (by omega))) ?_
       obtain ⟨r7, hr7, h⟩ := bindO h
       refine AQ_call 30 _ _ _ _ _ _ _ _ _ rfl rfl rfl rfl rfl rfl rfl Try.call66 rfl rfl rfl (spec_l01At_ac p0 (p1.getD x1.toNat 0) (p1.getD x3.toNat 0) _ hr7) ?_
       refine AQ_q 31 _ rfl rfl rfl (QOp_loadN_pv _ _ _ _ _ _ rfl Try.isAgg29 Try.sizeOf29 rfl (colD_all _) (colD_length _)) ?_
       refine kQ 2 rfl ?_
       obtain ⟨hc8, h⟩ := guardO h
       refine AQ_q 34 _ rfl rfl rfl (QOp_indexAddr_sl _ _ _ _ _ _ _ _ rfl Try.underlying24 Try.sizeOf2 hc8.1 (by rw [intsD_length]; exact hc8.2) rfl rfl) ?_
       refine AQ_q 35 _ rfl rfl rfl (QOp_load_pv _ _ _ _ _ rfl Try.isAgg2 rfl (intsD_get _ _ 0 (by omega))) ?_
       refine kQ 2 rfl ?_
       refine AQ_q 38 _ rfl rfl rfl (QOp_add _ _ _ _ _ _ _ rfl rfl rfl) ?_
       obtain ⟨hc9, h⟩ := guardO h
       refine AQ_q 39 _ rfl rfl rfl (QOp_indexAddr_sl _ _ _ _ _ _ _ _ rfl Try.underlying24 Try.sizeOf2 hc9.1 (by rw [intsD_length]; exact hc9.2) rfl rfl) ?_
       refine AQ_q 40 _ rfl rfl rfl (QOp_load_pv _ _ _ _ _ rfl Try.isAgg2 rfl (intsD_get _ _ 0 (by omega))) ?_
       obtain ⟨r10, hr10, h⟩ := bindO h
       refine AQ_call 41 _ _ _ _ _ _ _ _ _ rfl rfl rfl rfl rfl rfl rfl Try.call66 rfl rfl rfl (spec_l01At_ac p0 (p1.getD x1.toNat 0) (p1.getD (w64 (x1 + 1)).toNat 0) _ hr10) ?_
       refine AQ_q 42 _ rfl rfl rfl (QOp_neq _ _ _ _ _ _ _ rfl rfl rfl) ?_
       refine AQ_nil ?_
       refine kI h rfl (fun h _ => ?_) (fun h _ => ?_)
       ·refine kR ?_
        refine kN 1 rfl ?_
        refine ACode_ret ?_
        obtain ⟨rr, hz14, h2⟩ := bindO h
        obtain rfl := Option.some.inj h2
        obtain rfl := Option.some.inj (show some rr = some _ from hks12)
        have h := hz14
        cases h
        have h := hks13
        cases h
        exact ⟨_, _, fun r a w h => ⟨r, h⟩, _, _, [], _, (.cons (ResV_tmp _ _ rfl) .nil), rfl, rfl, rfl, rfl, rfl⟩
       refine ACode_skip ?_
       refine (ACode_region ?_)
       refine kM 1 rfl ?_
       refine AOps_q 20 _ rfl rfl rfl (QOp_add _ _ _ _ _ _ _ rfl rfl rfl) ?_
       refine kN 1 rfl ?_
       exact ⟨k1, _, _, Nat.lt_succ_self _, Weak_keep 0 hm [1, 2, 5, 6] [] _ _ rfl rfl rfl, _, rfl, rfl, h⟩
      refine ACode_exit ?_
      cases h
      exact ⟨_, rfl, Weak_keep 0 hm [1, 2, 5] [] _ _ rfl rfl rfl⟩
    refine (ACode_region ?_)
    refine kM 1 rfl ?_
    refine AOps_q 12 _ rfl rfl rfl (QOp_add _ _ _ _ _ _ _ rfl rfl rfl) ?_
    refine kN 1 rfl ?_
    exact ⟨k0, _, _, Nat.lt_succ_self _, Weak_keep 0 hm [1, 2, 5] [] _ _ rfl rfl rfl, _, rfl, rfl, h⟩
   refine ACode_exit ?_
   cases h
   exact ⟨_, rfl, Weak_keep 0 hm [] [] _ _ rfl rfl rfl⟩
 refine kR ?_
 refine kN 1 rfl ?_
 refine ACode_ret ?_
 cases h
 exact ⟨_, _, fun r a w h => ⟨r, h⟩, _, _, [], _, (.cons (ResV_tmp _ _ rfl) .nil), rfl, rfl, rfl, rfl, rfl⟩

-- loop.example/g01362/spec.IsLesserColoured
def spec_IsLesserColoured (k : Nat) (p0 : Col) (p1 : List Int) : Option (Bool × Int) :=
 (spec_l01Set k p0 p1).bind fun r1 => (if !decide (r1 = 0) then some (false, r1) else (spec_l10Lesser k p0 p1).bind fun r3 => some (r3, 0))
set_option maxRecDepth 100000 in
theorem spec_IsLesserColoured_ac (k : Nat) (p0 : Col) (p1 : List Int) (r : Bool × Int) (h : spec_IsLesserColoured k p0 p1 = some r) : AC Try.prog 22 [.d (.agg (colD p0)), .d (.sl none (intsD p1))] [] (fun res H' => res = [bV r.1, iV r.2] ∧ H' = []) := by
 refine AC_of_body true Try.func22 rfl Try.ntmps22 (rvs := [.tmp 4, .tmp 5]) rfl rfl (fun G hG => ?_)
 have hm : G.H.length = 0 := by rw [hG]; rfl
 have hz : zeroG G.H = true := by rw [hG]; rfl
 unfold spec_IsLesserColoured at h
 refine kR ?_
 refine AOps_boxI 2 _ _ (.agg (colD p0)) (colD p0) rfl (colD_one _) rfl rfl rfl rfl rfl ?_
 refine kN 2 rfl ?_
 refine ACode_seq ?_
 refine kR ?_
 refine AOps_q 7 _ rfl rfl rfl (QOp_loadN_pv _ _ _ _ _ _ rfl Try.isAgg29 Try.sizeOf29 rfl (colD_all _) (colD_length _)) ?_
 refine kM 1 rfl ?_
 obtain ⟨r1, hr1, h⟩ := bindO h
 refine kC [] 9 (iV r1) [] rfl Try.call77 rfl rfl (spec_l01Set_ac k p0 p1 _ hr1) rfl ?_
 refine kN 1 rfl ?_
 refine kR ?_
 refine kM 1 rfl ?_
 refine AOps_q 11 _ rfl rfl rfl (QOp_neq _ _ _ _ _ _ _ rfl rfl rfl) ?_
 refine AOps_nil ?_
 refine kI h rfl (fun h _ => ?_) (fun h _ => ?_)
 ·refine kR ?_
  refine kN 3 rfl ?_
  refine ACode_ret ?_
  cases h
  exact ⟨_, _, fun r a w h => ⟨r, h⟩, _, _, [], _, (.cons (ResV_tmp _ _ rfl) (.cons (ResV_tmp _ _ rfl) .nil)), rfl, rfl, rfl, rfl, rfl⟩
 refine ACode_skip ?_
 refine kR ?_
 refine AOps_q 13 _ rfl rfl rfl (QOp_loadN_pv _ _ _ _ _ _ rfl Try.isAgg29 Try.sizeOf29 rfl (colD_all _) (colD_length _)) ?_
 refine kM 1 rfl ?_
 obtain ⟨r3, hr3, h⟩ := bindO h
 refine kC [] 15 (bV r3) [] rfl Try.call78 rfl rfl (spec_l10Lesser_ac k p0 p1 _ hr3) rfl ?_
 refine kN 2 rfl ?_
 refine ACode_ret ?_
 cases h
 exact ⟨_, _, fun r a w h => ⟨r, h⟩, _, _, [], _, (.cons (ResV_tmp _ _ rfl) (.cons (ResV_tmp _ _ rfl) .nil)), rfl, rfl, rfl, rfl, rfl⟩

-- loop.example/g01362/impl.always
def impl_always : Bool :=
 true
set_option maxRecDepth 100000 in
theorem impl_always_ac : AC Try.prog 45 [] [] (fun res H' => res = [bV (impl_always)] ∧ H' = []) := by
 refine AC_of_body true Try.func45 rfl Try.ntmps45 (rvs := [.tmp 0]) rfl rfl (fun G hG => ?_)
 have hm : G.H.length = 0 := by rw [hG]; rfl
 have hz : zeroG G.H = true := by rw [hG]; rfl
 obtain ⟨r, h⟩ : ∃ r, impl_always = r := ⟨_, rfl⟩
 rw [h]
 unfold impl_always at h
 refine kR ?_
 refine kN 1 rfl ?_
 refine kR ?_
 refine kN 1 rfl ?_
 refine ACode_ret ?_
 cases h
 exact ⟨_, _, fun r a w h => ⟨r, h⟩, _, _, [], _, (.cons (ResV_tmp _ _ rfl) .nil), rfl, rfl, rfl, rfl, rfl⟩

-- (*loop.example/g01362/impl.Colouring).that
def impl_Colouring_that_l0 (p0 : Col) (p1 : Int → Option (Bool)) : Nat → Int → (List Int) → Option (List Int)
 | 0, _, _ => none
 | k0 + 1, x1, x2 => (if decide (x1 < p0.p) then ((p1 x1).bind fun r4 => (if r4 then (if x2.length + ([x1]).length ≤ 1099511627776 then some (x2 ++ ([x1])) else none) else some x2) : Option (List Int)).bind fun s7 => impl_Colouring_that_l0 p0 p1 k0 (w64 (x1 + 1)) s7 else some x2)
def impl_Colouring_that (k : Nat) (p0 : Col) (p1 : Int → Option (Bool)) : Option (List Int) :=
 (impl_Colouring_that_l0 p0 p1 k 0 ([] : List Int) : Option (List Int)).bind fun s8 => some s8
set_option maxRecDepth 100000 in
theorem impl_Colouring_that_ac (k : Nat) (p0 : Col) (p1 : Int → Option (Bool)) (g_p1 : FuncId) (c_p1 : List D) (hg_p1 : ∀ args w, (callFunc g_p1 args).run Try.prog w = .ok (.enter g_p1 args) w) (hf_p1 : ∀ (a0 : Int) (r : Bool), p1 a0 = some r → AC Try.prog g_p1 ([iV a0] ++ c_p1.map AV.d) [] (fun res H' => res = [bV r] ∧ H' = [])) (r : List Int) (h : impl_Colouring_that k p0 p1 = some r) : AC Try.prog 51 [.d (.pv (colD p0) 0), .d (.clo g_p1 c_p1)] [] (fun res H' => res = [.vec 0 0] ∧ H' = [.vec 0 (intsD r)]) := by
 refine AC_of_body true Try.func51 rfl Try.ntmps51 (rvs := [.tmp 4]) rfl rfl (fun G hG => ?_)
 have hm : G.H.length = 0 := by rw [hG]; rfl
 have hz : zeroG G.H = true := by rw [hG]; rfl
 unfold impl_Colouring_that at h
 refine kR ?_
 refine kN 1 rfl ?_
 refine kR ?_
 refine AOps_buildSlice 7 _ _ _ [] (intsD ([] : List Int)) _ rfl rfl rfl rfl rfl (by decide) Try.underlying24 Try.sizeOf2 (zero_of Try.typeInfo2 rfl) rfl rfl (intsD_one _) ?_
 refine kN 1 rfl ?_
 refine kB (fun s8 => [(5, .vec 0 0)]) (fun s8 => [.vec 0 (intsD s8)]) h (fun s8 h => ?_) (fun s8 h => ?_)
 ·refine kR ?_
  refine kM 1 rfl ?_
  refine AOps_q 9 _ rfl rfl rfl (QOp_nilCheck_pv _ _ _ rfl rfl) ?_
  refine AOps_q 10 _ rfl rfl rfl (QOp_fieldAddr_pv _ _ _ _ _ 0 _ _ rfl Try.underlying29 rfl _ Try.sizeOf2 rfl rfl) ?_
  refine AOps_q 11 _ rfl rfl rfl (QOp_load_pv _ _ _ _ _ rfl Try.isAgg2 rfl rfl) ?_
  refine kN 1 rfl ?_
  refine ACode_block ?_
  refine ACode_loopW (fun k0 E H => ∃ (x1 : Int) (x2 : List Int), E = [(1, .d (.clo g_p1 c_p1)), (5, .vec 0 0), (11, iV p0.p), (12, iV x1)] ∧ H = [.vec 0 (intsD x2)] ∧ impl_Colouring_that_l0 p0 p1 k0 x1 x2 = some s8) k _ _ (Weak_keep 0 hm [1, 5, 11, 12] [0] _ _ rfl rfl rfl) ⟨_, _, rfl, rfl, h⟩ ?_
  clear h
  rintro k0 E H ⟨x1, x2, rfl, rfl, h⟩
  cases k0 with
  | zero => cases (show (none : Option (List Int)) = some _ from h)
  | succ k0 =>
   rw [impl_Colouring_that_l0] at h
   refine kR ?_
   refine AOps_q 13 _ rfl rfl rfl (QOp_lss _ _ _ _ _ _ _ rfl rfl rfl) ?_
   refine AOps_nil ?_
   refine ACode_seq ?_
   refine kI h rfl (fun h _ => ?_) (fun h _ => ?_)
   ·refine ACode_skip ?_
    refine kB (fun s7 => [(1, .d (.clo g_p1 c_p1)), (5, .vec 0 0), (11, iV p0.p), (12, iV x1)]) (fun s7 => [.vec 0 (intsD s7)]) h (fun s7 h => ?_) (fun s7 h => ?_)
    ·refine ACode_block ?_
     refine kR ?_
     refine kN 2 rfl ?_
     refine kR ?_
     refine kM 2 rfl ?_
     obtain ⟨r4, hr4, h⟩ := bindO h
     refine kC [] 17 (bV r4) [.vec 0 (intsD x2)] rfl hg_p1 rfl (viewA_mapD _) (hf_p1 x1 _ hr4) rfl ?_
     refine AOps_nil ?_
     refine kI h rfl (fun h _ => ?_) (fun h _ => ?_)
     ·refine (ACode_region ?_)
      refine kM 2 rfl ?_
      refine AOps_buildSlice 20 _ _ _ [_] (intsD ([x1])) _ rfl rfl rfl rfl rfl (by decide) Try.underlying24 Try.sizeOf2 (zero_of Try.typeInfo2 rfl) rfl rfl (intsD_one _) ?_
      obtain ⟨hc6, h⟩ := guardO h
      refine AOps_append 21 _ _ _ _ _ _ _ _ _ _ _ _ rfl rfl rfl rfl rfl rfl rfl Try.underlying24 Try.type2 rfl rfl rfl (by decide) rfl rfl rfl rfl (intsD_one _) (by rw [intsD_length, intsD_length]; exact hc6) ?_
      rw [intsD_app]
      refine kN 1 rfl ?_
      cases h
      exact Weak_trans (Weak_keep 0 hm [1, 5, 11, 12] [0] _ _ rfl rfl rfl) (Weak_reset 0 hm hz [1, 5, 11, 12] _ _ rfl rfl)
     refine ACode_skip ?_
     cases h
     exact Weak_keep 0 hm [1, 5, 11, 12] [0] _ _ rfl rfl rfl
    refine (ACode_region ?_)
    refine AOps_q 22 _ rfl rfl rfl (QOp_add _ _ _ _ _ _ _ rfl rfl rfl) ?_
    refine kN 1 rfl ?_
    exact ⟨k0, _, _, Nat.lt_succ_self _, Weak_keep 0 hm [1, 5, 11, 12] [0] _ _ rfl rfl rfl, _, _, rfl, rfl, h⟩
   refine ACode_exit ?_
   cases h
   exact Weak_keep 0 hm [5] [0] _ _ rfl rfl rfl
 refine kR ?_
 refine kN 2 rfl ?_
 refine ACode_ret ?_
 cases h
 exact ⟨_, _, Weak_reset 0 hm hz [4] _ _ rfl rfl, _, _, [0], _, (.cons (ResV_tmp _ _ rfl) .nil), rfl, rfl, rfl, rfl, rfl⟩

-- (*loop.example/g01362/impl.Colouring).points$1
def impl_Colouring_points_c1 (p0 : Int) : Bool :=
 true
set_option maxRecDepth 100000 in
theorem impl_Colouring_points_c1_ac (p0 : Int) : AC Try.prog 114 [iV p0] [] (fun res H' => res = [bV (impl_Colouring_points_c1 p0)] ∧ H' = []) := by
 refine AC_of_body true Try.func114 rfl Try.ntmps114 (rvs := [.tmp 2]) rfl rfl (fun G hG => ?_)
 have hm : G.H.length = 0 := by rw [hG]; rfl
 have hz : zeroG G.H = true := by rw [hG]; rfl
 obtain ⟨r, h⟩ : ∃ r, impl_Colouring_points_c1 p0 = r := ⟨_, rfl⟩
 rw [h]
 unfold impl_Colouring_points_c1 at h
 refine kR ?_
 refine kN 1 rfl ?_
 refine kR ?_
 refine kN 1 rfl ?_
 refine ACode_ret ?_
 cases h
 exact ⟨_, _, fun r a w h => ⟨r, h⟩, _, _, [], _, (.cons (ResV_tmp _ _ rfl) .nil), rfl, rfl, rfl, rfl, rfl⟩

-- (*loop.example/g01362/impl.Colouring).points
def impl_Colouring_points (k : Nat) (p0 : Col) : Option (List Int) :=
 (impl_Colouring_that k p0 (fun a0 => some (impl_Colouring_points_c1 a0))).bind fun r1 => some r1
set_option maxRecDepth 100000 in
theorem impl_Colouring_points_ac (k : Nat) (p0 : Col) (r : List Int) (h : impl_Colouring_points k p0 = some r) : AC Try.prog 80 [.d (.pv (colD p0) 0)] [] (fun res H' => res = [.vec 0 0] ∧ H' = [.vec 0 (intsD r)]) := by
 refine AC_of_body true Try.func80 rfl Try.ntmps80 (rvs := [.tmp 2]) rfl rfl (fun G hG => ?_)
 have hm : G.H.length = 0 := by rw [hG]; rfl
 have hz : zeroG G.H = true := by rw [hG]; rfl
 unfold impl_Colouring_points at h
 refine kR ?_
 refine kN 1 rfl ?_
 refine kR ?_
 refine kM 1 rfl ?_
 obtain ⟨r1, hr1, h⟩ := bindO h
 refine kC [] 4 (.vec 0 0) [.vec 0 (intsD r1)] rfl Try.call51 rfl rfl (impl_Colouring_that_ac k p0 (fun a0 => some (impl_Colouring_points_c1 a0)) 114 ([]) Try.call114 (fun a0 r h => by cases h; exact impl_Colouring_points_c1_ac a0) _ hr1) rfl ?_
 refine kN 1 rfl ?_
 refine ACode_ret ?_
 cases h
 exact ⟨_, _, Weak_reset 0 hm hz [2] _ _ rfl rfl, _, _, [0], _, (.cons (ResV_tmp _ _ rfl) .nil), rfl, rfl, rfl, rfl, rfl⟩

-- (*loop.example/g01362/impl.Colouring).lesser
def impl_Colouring_lesser_l1 (p0 : Col) (p1 : List Int) (p2 : List Int) (x6 : Int) : Nat → Int → (List Int) → Option (List Int)
 | 0, _, _ => none
 | k1 + 1, x12, x13 => (if decide (x12 < (((p2.take p2.length).drop (w64 (x6 + 1)).toNat).length : Int)) then ((if 0 ≤ x12 ∧ x12 < (((p2.take p2.length).drop (w64 (x6 + 1)).toNat).length : Int) then ((if decide ((p1.length : Int) = 0) then some true else (if 0 ≤ w64 ((p1.length : Int) - 1) ∧ w64 ((p1.length : Int) - 1) < (p1.length : Int) then (impl_Colouring_at p0 (p1.getD (w64 ((p1.length : Int) - 1)).toNat 0) (((p2.take p2.length).drop (w64 (x6 + 1)).toNat).getD x12.toNat 0)).bind fun r18 => (if 0 ≤ w64 ((p1.length : Int) - 1) ∧ w64 ((p1.length : Int) - 1) < (p1.length : Int) then (impl_Colouring_at p0 (p1.getD (w64 ((p1.length : Int) - 1)).toNat 0) (p2.getD x6.toNat 0)).bind fun r20 => some (decide (r18 = r20)) else none) else none)) : Option (Bool)).bind fun s21 => (if s21 then (if x13.length + ([(((p2.take p2.length).drop (w64 (x6 + 1)).toNat).getD x12.toNat 0)]).length ≤ 1099511627776 then some (x13 ++ ([(((p2.take p2.length).drop (w64 (x6 + 1)).toNat).getD x12.toNat 0)])) else none) else some x13) else none) : Option (List Int)).bind fun s24 => impl_Colouring_lesser_l1 p0 p1 p2 x6 k1 (w64 (x12 + 1)) s24 else some x13)
def impl_Colouring_lesser_l0 (k : Nat) (self : Col → (List Int) → (List Int) → (List Int) → Option (List Int)) (p0 : Col) (p1 : List Int) (p2 : List Int) : Nat → Int → (List Int) → Option (List Int)
 | 0, _, _ => none
 | k0 + 1, x6, x7 => (if decide (x6 < (p2.length : Int)) then ((if 0 ≤ x6 ∧ x6 < (p2.length : Int) then (if decide (w64 ((w64 ((p1.length : Int) + (p2.length : Int))) - x6) ≤ (x7.length : Int)) then some (.inr x7) else ((if 0 ≤ w64 (x6 + 1) ∧ w64 (x6 + 1) ≤ (p2.length : Int) ∧ (p2.length : Int) ≤ (p2.length : Int) then impl_Colouring_lesser_l1 p0 p1 p2 x6 k 0 ([] : List Int) else none) : Option (List Int)).bind fun s25 => (if p1.isEmpty then (if ([(p2.getD x6.toNat 0)]).length ≤ 1099511627776 ∧ ([(p2.getD x6.toNat 0)]).length ≠ 0 then (self p0 ([(p2.getD x6.toNat 0)]) s25 x7).bind fun r29 => some (.inl r29) else none) else (cloneA p1).bind fun r30 => (if r30.length + ([(p2.getD x6.toNat 0)]).length ≤ 1099511627776 then (self p0 (r30 ++ ([(p2.getD x6.toNat 0)])) s25 x7).bind fun r32 => some (.inl r32) else none))) else none) : Option (Sum (List Int) (List Int))).bind fun os33 => (match os33 with | .inl s33 => impl_Colouring_lesser_l0 k self p0 p1 p2 k0 (w64 (x6 + 1)) s33 | .inr rr => some rr) else some x7)
def impl_Colouring_lesser_body (self : Col → (List Int) → (List Int) → (List Int) → Option (List Int)) (k : Nat) (p0 : Col) (p1 : List Int) (p2 : List Int) (p3 : List Int) : Option (List Int) :=
 ((if decide ((p3.length : Int) < (p1.length : Int)) then (if p1.isEmpty then none else (cloneA p1).bind fun r4 => some r4) else some p3) : Option (List Int)).bind fun s5 => impl_Colouring_lesser_l0 k self p0 p1 p2 k 0 s5
def impl_Colouring_lesser : Nat → Col → (List Int) → (List Int) → (List Int) → Option (List Int)
 | 0, _, _, _, _ => none
 | k + 1, p0, p1, p2, p3 => impl_Colouring_lesser_body (impl_Colouring_lesser k) k p0 p1 p2 p3
set_option maxRecDepth 100000 in
theorem impl_Colouring_lesser_ac (k : Nat) (p0 : Col) (p1 : List Int) (p2 : List Int) (p3 : List Int) (r : List Int) (h : impl_Colouring_lesser k p0 p1 p2 p3 = some r) : AC Try.prog 79 [.d (.pv (colD p0) 0), .d (.sl none (intsD p1)), .d (.sl none (intsD p2)), .ptr 0 0] [.ref (.vec 1 0), .vec 0 (intsD p3)] (fun res H' => res = [] ∧ H' = [.ref (.vec 1 1), .vec 1 (intsD r)]) := by
 induction k generalizing p0 p1 p2 p3 r with
 | zero => simp [impl_Colouring_lesser] at h
 | succ k ih =>
  rw [impl_Colouring_lesser] at h
  obtain ⟨self, hself, hk⟩ : ∃ self : Col → (List Int) → (List Int) → (List Int) → Option (List Int), (∀ (p0 : Col) (p1 : List Int) (p2 : List Int) (p3 : List Int) (r : List Int), self p0 p1 p2 p3 = some r → AC Try.prog 79 [.d (.pv (colD p0) 0), .d (.sl none (intsD p1)), .d (.sl none (intsD p2)), .ptr 0 0] [.ref (.vec 1 0), .vec 0 (intsD p3)] (fun res H' => res = [] ∧ H' = [.ref (.vec 1 1), .vec 1 (intsD r)])) ∧ impl_Colouring_lesser k = self := ⟨impl_Colouring_lesser k, fun p0 p1 p2 p3 r h => ih p0 p1 p2 p3 r h, rfl⟩
  rw [hk] at h
  clear ih hk
  refine AC_of_body true Try.func79 rfl Try.ntmps79 (rvs := []) rfl rfl (fun G hG => ?_)
  have hm : G.H.length = 2 := by rw [hG]; rfl
  have hz : zeroG G.H = true := by rw [hG]; rfl
  refine ACode_weak (Weak_bump 0 1 _ rfl rfl _ rfl) ?_
  unfold impl_Colouring_lesser_body at h
  refine kB (fun s5 => [(0, .d (.pv (colD p0) 0)), (1, .d (.sl none (intsD p1))), (2, .d (.sl none (intsD p2))), (3, .ptr 0 0)]) (fun s5 => [.ref (.vec 1 1), .vec 1 (intsD s5)]) h (fun s5 h => ?_) (fun s5 h => ?_)
  ·refine kR ?_
   refine kM 1 rfl ?_
   refine AOps_q 14 _ rfl rfl rfl (QOp_len_sl _ _ _ _ _ _ _ (intsD_length _) rfl rfl rfl rfl Try.underlying24 rfl) ?_
   refine kM 1 rfl ?_
   refine AOps_q 16 _ rfl rfl rfl (QOp_nilCheck_ptr _ _ _ _ rfl rfl rfl rfl) ?_
   refine AOps_q 17 _ rfl rfl rfl (QOp_load_ref _ _ _ _ rfl Try.isAgg24 rfl rfl) ?_
   refine AOps_q 18 _ rfl rfl rfl (QOp_len_vec _ _ _ _ _ _ _ _ (intsD_length _) rfl rfl rfl rfl Try.underlying24 rfl rfl) ?_
   refine AOps_q 19 _ rfl rfl rfl (QOp_gtr _ _ _ _ _ _ _ rfl rfl rfl) ?_
   refine AOps_nil ?_
   refine kI h rfl (fun h _ => ?_) (fun h _ => ?_)
   ·refine (ACode_region ?_)
    refine kM 2 rfl ?_
    refine bsplit (p1.isEmpty) (fun hb2 => ?_) (fun hb2 => ?_)
    ·have h := iteT hb2 h
     cases h
    have h := iteF hb2 h
    obtain ⟨r4, hr4, h⟩ := bindO h
    refine kC [] 22 (.vec 2 0) [.ref (.vec 1 1), .vec 1 (intsD p3), .vec 0 (intsD r4)] rfl Try.call103 rfl rfl (cloneA_ac p1 _ hb2 hr4) rfl ?_
    refine AOps_q 23 _ rfl rfl rfl (QOp_nilCheck_ptr _ _ _ _ rfl rfl rfl rfl) ?_
    refine AOps_storeR 0 _ _ _ _ _ rfl rfl rfl rfl rfl rfl rfl rfl Try.sizeOf24 (fun r a w hr => vec_one hr rfl rfl rfl) ?_
    refine AOps_weak (Weak_move 0 1 2 _ _ _ _ rfl rfl rfl rfl _ rfl) ?_
    refine AOps_nil ?_
    cases h
    exact Weak_trans (Weak_keep 2 hm [0, 1, 2, 3] [] _ _ rfl rfl rfl) (Weak_reset 2 hm hz [0, 1, 2, 3] _ _ rfl rfl)
   refine ACode_skip ?_
   cases h
   exact Weak_keep 2 hm [0, 1, 2, 3] [] _ _ rfl rfl rfl
  refine kR ?_
  refine kM 1 rfl ?_
  refine AOps_q 25 _ rfl rfl rfl (QOp_len_sl _ _ _ _ _ _ _ (intsD_length _) rfl rfl rfl rfl Try.underlying24 rfl) ?_
  refine kN 1 rfl ?_
  refine ACode_block ?_
  refine ACode_loopW (fun k0 E H => ∃ (x6 : Int) (x7 : List Int), E = [(0, .d (.pv (colD p0) 0)), (1, .d (.sl none (intsD p1))), (2, .d (.sl none (intsD p2))), (3, .ptr 0 0), (24, .d (.sl none (intsD p2))), (25, iV (p2.length : Int)), (26, iV x6)] ∧ H = [.ref (.vec 1 1), .vec 1 (intsD x7)] ∧ impl_Colouring_lesser_l0 k self p0 p1 p2 k0 x6 x7 = some r) k _ _ (Weak_keep 2 hm [0, 1, 2, 3, 24, 25, 26] [] _ _ rfl rfl rfl) ⟨_, _, rfl, rfl, h⟩ ?_
  clear h
  rintro k0 E H ⟨x6, x7, rfl, rfl, h⟩
  cases k0 with
  | zero => cases (show (none : Option (List Int)) = some _ from h)
  | succ k0 =>
   rw [impl_Colouring_lesser_l0] at h
   refine kR ?_
   refine AOps_q 27 _ rfl rfl rfl (QOp_lss _ _ _ _ _ _ _ rfl rfl rfl) ?_
   refine AOps_nil ?_
   refine ACode_seq ?_
   refine kI h rfl (fun h _ => ?_) (fun h _ => ?_)
   ·refine ACode_skip ?_
    refine kO (fun s33 => [(0, .d (.pv (colD p0) 0)), (1, .d (.sl none (intsD p1))), (2, .d (.sl none (intsD p2))), (3, .ptr 0 0), (24, .d (.sl none (intsD p2))), (25, iV (p2.length : Int)), (26, iV x6)]) (fun s33 => [.ref (.vec 1 1), .vec 1 (intsD s33)]) h (fun os33 h hks33 => ?_) (fun s33 h => ?_)
    ·refine ACode_block ?_
     refine kR ?_
     refine kM 1 rfl ?_
     obtain ⟨hc9, h⟩ := guardO h
     refine AOps_q 29 _ rfl rfl rfl (QOp_indexAddr_sl _ _ _ _ _ _ _ _ rfl Try.underlying24 Try.sizeOf2 hc9.1 (by rw [intsD_length]; exact hc9.2) rfl rfl) ?_
     refine AOps_q 30 _ rfl rfl rfl (QOp_load_pv _ _ _ _ _ rfl Try.isAgg2 rfl (intsD_get _ _ 0 (by omega))) ?_
     refine kN 2 rfl ?_
     refine ACode_seq ?_
     refine kR ?_
     refine kM 1 rfl ?_
     refine AOps_q 32 _ rfl rfl rfl (QOp_len_sl _ _ _ _ _ _ _ (intsD_length _) rfl rfl rfl rfl Try.underlying24 rfl) ?_
     refine kM 1 rfl ?_
     refine AOps_q 34 _ rfl rfl rfl (QOp_len_sl _ _ _ _ _ _ _ (intsD_length _) rfl rfl rfl rfl Try.underlying24 rfl) ?_
     refine AOps_q 35 _ rfl rfl rfl (QOp_add _ _ _ _ _ _ _ rfl rfl rfl) ?_
     refine kM 1 rfl ?_
     refine AOps_q 37 _ rfl rfl rfl (QOp_sub _ _ _ _ _ _ _ rfl rfl rfl) ?_
     refine kM 1 rfl ?_
     refine AOps_q 39 _ rfl rfl rfl (QOp_nilCheck_ptr _ _ _ _ rfl rfl rfl rfl) ?_
     refine AOps_q 40 _ rfl rfl rfl (QOp_load_ref _ _ _ _ rfl Try.isAgg24 rfl rfl) ?_
     refine AOps_q 41 _ rfl rfl rfl (QOp_len_vec _ _ _ _ _ _ _ _ (intsD_length _) rfl rfl rfl rfl Try.underlying24 rfl rfl) ?_
     refine AOps_q 42 _ rfl rfl rfl (QOp_leq _ _ _ _ _ _ _ rfl rfl rfl) ?_
     refine AOps_nil ?_
     refine kI h rfl (fun h _ => ?_) (fun h _ => ?_)
     ·refine ACode_ret ?_
      cases h
      have h := hks33
      cases h
      exact ⟨_, _, fun r a w h => ⟨r, h⟩, _, _, [], _, .nil, rfl, rfl, rfl, rfl, rfl⟩
     refine ACode_skip ?_
     refine kR ?_
     refine AOps_buildSlice 43 _ _ _ [] (intsD ([] : List Int)) _ rfl rfl rfl rfl rfl (by decide) Try.underlying24 Try.sizeOf2 (zero_of Try.typeInfo2 rfl) rfl rfl (intsD_one _) ?_
     refine kN 1 rfl ?_
     refine kB (fun s25 => [(0, .d (.pv (colD p0) 0)), (1, .d (.sl none (intsD p1))), (2, .d (.sl none (intsD p2))), (3, .ptr 0 0), (9, iV (p2.getD x6.toNat 0)), (10, .vec 2 0), (24, .d (.sl none (intsD p2))), (25, iV (p2.length : Int)), (26, iV x6)]) (fun s25 => [.ref (.vec 1 1), .vec 1 (intsD x7), .vec 0 (intsD s25)]) h (fun s25 h => ?_) (fun s25 h => ?_)
     ·refine kR ?_
      refine kM 2 rfl ?_
      refine AOps_q 46 _ rfl rfl rfl (QOp_add _ _ _ _ _ _ _ rfl rfl rfl) ?_
      obtain ⟨hc11, h⟩ := guardO h
      refine AOps_q 47 _ rfl rfl rfl (QOp_slice_sl _ _ _ _ _ _ _ _ ((w64 (x6 + 1)).toNat) (p2.length) rfl Try.underlying24 Try.sizeOf2 rfl ⟨_, by rw [Int.toNat_of_nonneg (by omega)]; rfl⟩ (by rw [intsD_length]) (by omega) (by rw [intsD_length]; omega) (intsD_part _ _ _)) ?_
      refine AOps_q 48 _ rfl rfl rfl (QOp_len_sl _ _ _ _ _ _ _ (intsD_length _) rfl rfl rfl rfl Try.underlying24 rfl) ?_
      refine kN 1 rfl ?_
      refine ACode_block ?_
      refine ACode_loopW (fun k1 E H => ∃ (x12 : Int) (x13 : List Int), E = [(0, .d (.pv (colD p0) 0)), (1, .d (.sl none (intsD p1))), (2, .d (.sl none (intsD p2))), (3, .ptr 0 0), (9, iV (p2.getD x6.toNat 0)), (10, .vec 2 0), (24, .d (.sl none (intsD p2))), (25, iV (p2.length : Int)), (26, iV x6), (47, .d (.sl none (intsD ((p2.take p2.length).drop (w64 (x6 + 1)).toNat)))), (48, iV (((p2.take p2.length).drop (w64 (x6 + 1)).toNat).length : Int)), (49, iV x12)] ∧ H = [.ref (.vec 1 1), .vec 1 (intsD x7), .vec 0 (intsD x13)] ∧ impl_Colouring_lesser_l1 p0 p1 p2 x6 k1 x12 x13 = some s25) k _ _ (Weak_keep 2 hm [0, 1, 2, 3, 9, 10, 24, 25, 26, 47, 48, 49] [2] _ _ rfl rfl rfl) ⟨_, _, rfl, rfl, h⟩ ?_
      clear h
      rintro k1 E H ⟨x12, x13, rfl, rfl, h⟩
      cases k1 with
      | zero => cases (show (none : Option (List Int)) = some _ from h)
      | succ k1 =>
       rw [impl_Colouring_lesser_l1] at h
       refine kR ?_
       refine AOps_q 50 _ rfl rfl rfl (QOp_lss _ _ _ _ _ _ _ rfl rfl rfl) ?_
       refine AOps_nil ?_
       refine ACode_seq ?_
       refine kI h rfl (fun h _ => ?_) (fun h _ => ?_)
       ·refine ACode_skip ?_
        refine kB (fun s24 => [(0, .d (.pv (colD p0) 0)), (1, .d (.sl none (intsD p1))), (2, .d (.sl none (intsD p2))), (3, .ptr 0 0), (9, iV (p2.getD x6.toNat 0)), (10, .vec 2 0), (24, .d (.sl none (intsD p2))), (25, iV (p2.length : Int)), (26, iV x6), (47, .d (.sl none (intsD ((p2.take p2.length).drop (w64 (x6 + 1)).toNat)))), (48, iV (((p2.take p2.length).drop (w64 (x6 + 1)).toNat).length : Int)), (49, iV x12)]) (fun s24 => [.ref (.vec 1 1), .vec 1 (intsD x7), .vec 0 (intsD s24)]) h (fun s24 h => ?_) (fun s24 h => ?_)
        ·refine ACode_block ?_
         refine kR ?_
         obtain ⟨hc15, h⟩ := guardO h
         refine AOps_q 51 _ rfl rfl rfl (QOp_indexAddr_sl _ _ _ _ _ _ _ _ rfl Try.underlying24 Try.sizeOf2 hc15.1 (by rw [intsD_length]; exact hc15.2) rfl rfl) ?_
         refine AOps_q 52 _ rfl rfl rfl (QOp_load_pv _ _ _ _ _ rfl Try.isAgg2 rfl (intsD_get _ _ 0 (by omega))) ?_
         refine kN 1 rfl ?_
         refine kB (fun s21 => [(0, .d (.pv (colD p0) 0)), (1, .d (.sl none (intsD p1))), (2, .d (.sl none (intsD p2))), (3, .ptr 0 0), (9, iV (p2.getD x6.toNat 0)), (10, .vec 2 0), (12, iV (((p2.take p2.length).drop (w64 (x6 + 1)).toNat).getD x12.toNat 0)), (24, .d (.sl none (intsD p2))), (25, iV (p2.length : Int)), (26, iV x6), (47, .d (.sl none (intsD ((p2.take p2.length).drop (w64 (x6 + 1)).toNat)))), (48, iV (((p2.take p2.length).drop (w64 (x6 + 1)).toNat).length : Int)), (49, iV x12), (76, bV s21)]) (fun s21 => [.ref (.vec 1 1), .vec 1 (intsD x7), .vec 0 (intsD x13)]) h (fun s21 h => ?_) (fun s21 h => ?_)
         ·refine (ACode_quiet mixed (by kernel_rfl) ?_)
          refine kQ 1 rfl ?_
          refine AQ_q 54 _ rfl rfl rfl (QOp_len_sl _ _ _ _ _ _ _ (intsD_length _) rfl rfl rfl rfl Try.underlying24 rfl) ?_
          refine AQ_q 55 _ rfl rfl rfl (QOp_eql _ _ _ _ _ _ _ rfl rfl rfl) ?_
          refine kQ 1 rfl ?_
          refine AQ_case 56 _ rfl (fun hb16 => ?_) (fun hb16 => ?_)
          ·have h := iteT hb16 h
           refine AQ_skip 57 rfl rfl rfl ?_
           refine AQ_skip 58 rfl rfl rfl ?_
           refine AQ_skip 59 rfl rfl rfl ?_
           refine AQ_skip 60 rfl rfl rfl ?_
           refine AQ_skip 61 rfl rfl rfl ?_
           refine AQ_skip 62 rfl rfl rfl ?_
           refine AQ_skip 63 rfl rfl rfl ?_
           refine AQ_skip 64 rfl rfl rfl ?_
           refine AQ_skip 65 rfl rfl rfl ?_
           refine AQ_skip 66 rfl rfl rfl ?_
           refine AQ_skip 67 rfl rfl rfl ?_
           refine AQ_skip 68 rfl rfl rfl ?_
           refine AQ_skip 69 rfl rfl rfl ?_
           refine AQ_skip 70 rfl rfl rfl ?_
           refine AQ_skip 71 rfl rfl rfl ?_
           refine AQ_skip 72 rfl rfl rfl ?_
           refine AQ_skip 73 rfl rfl rfl ?_
           refine AQ_skip 74 rfl rfl rfl ?_
           refine AQ_skip 75 rfl rfl rfl ?_
           refine kQ 1 rfl ?_
           refine AQ_nil ?_
           cases h
           exact Weak_keep 2 hm [0, 1, 2, 3, 9, 10, 12, 24, 25, 26, 47, 48, 49, 76] [2] _ _ rfl rfl rfl
          have h := iteF hb16 h
          refine kQ 3 rfl ?_
          refine AQ_q 60 _ rfl rfl rfl (QOp_len_sl _ _ _ _ _ _ _ (intsD_length _) rfl rfl rfl rfl Try.underlying24 rfl) ?_
          refine AQ_q 61 _ rfl rfl rfl (QOp_sub _ _ _ _ _ _ _ rfl rfl rfl) ?_
          obtain ⟨hc17, h⟩ := guardO h
          refine AQ_q 62 _ rfl rfl rfl (QOp_indexAddr_sl _ _ _ _ _ _ _ _ rfl Try.underlying24 Try.sizeOf2 hc17.1 (by rw [intsD_length]; exact hc17.2) rfl rfl) ?_
          refine AQ_q 63 _ rfl rfl rfl (QOp_load_pv _ _ _ _ _ rfl Try.isAgg2 rfl (intsD_get _ _ 0 (by omega))) ?_
          refine kQ 1 rfl ?_
          obtain ⟨r18, hr18, h⟩ := bindO h
          refine AQ_call 65 _ _ _ _ _ _ _ _ _ rfl rfl rfl rfl rfl rfl rfl Try.call63 rfl rfl rfl (impl_Colouring_at_ac p0 (p1.getD (w64 ((p1.length : Int) - 1)).toNat 0) (((p2.take p2.length).drop (w64 (x6 + 1)).toNat).getD x12.toNat 0) _ hr18) ?_
          refine kQ 3 rfl ?_
          refine AQ_q 69 _ rfl rfl rfl (QOp_len_sl _ _ _ _ _ _ _ (intsD_length _) rfl rfl rfl rfl Try.underlying24 rfl) ?_
          refine AQ_q 70 _ rfl rfl rfl (QOp_sub _ _ _ _ _ _ _ rfl rfl rfl) ?_
          obtain ⟨hc19, h⟩ := guardO h
          refine AQ_q 71 _ rfl rfl rfl (QOp_indexAddr_sl _ _ _ _ _ _ _ _ rfl Try.underlying24 Try.sizeOf2 hc19.1 (by rw [intsD_length]; exact hc19.2) rfl rfl) ?_
          refine AQ_q 72 _ rfl rfl rfl (QOp_load_pv _ _ _ _ _ rfl Try.isAgg2 rfl (intsD_get _ _ 0 (by omega))) ?_
          refine kQ 1 rfl ?_
          obtain ⟨r20, hr20, h⟩ := bindO h
          refine AQ_call 74 _ _ _ _ _ _ _ _ _ rfl rfl rfl rfl rfl rfl rfl Try.call63 rfl rfl rfl (impl_Colouring_at_ac p0 (p1.getD (w64 ((p1.length : Int) - 1)).toNat 0) (p2.getD x6.toNat 0) _ hr20) ?_
          refine AQ_q 75 _ rfl rfl rfl (QOp_eql _ _ _ _ _ _ _ rfl rfl rfl) ?_
          refine kQ 1 rfl ?_
          refine AQ_nil ?_
          cases h
          exact Weak_keep 2 hm [0, 1, 2, 3, 9, 10, 12, 24, 25, 26, 47, 48, 49, 76] [2] _ _ rfl rfl rfl
         refine kI h rfl (fun h _ => ?_) (fun h _ => ?_)
         ·refine (ACode_region ?_)
          refine kM 2 rfl ?_
          refine AOps_buildSlice 79 _ _ _ [_] (intsD ([(((p2.take p2.length).drop (w64 (x6 + 1)).toNat).getD x12.toNat 0)])) _ rfl rfl rfl rfl rfl (by decide) Try.underlying24 Try.sizeOf2 (zero_of Try.typeInfo2 rfl) rfl rfl (intsD_one _) ?_
          obtain ⟨hc23, h⟩ := guardO h
          refine AOps_append 80 _ _ _ _ _ _ _ _ _ _ _ _ rfl rfl rfl rfl rfl rfl rfl Try.underlying24 Try.type2 rfl rfl rfl (by decide) rfl rfl rfl rfl (intsD_one _) (by rw [intsD_length, intsD_length]; exact hc23) ?_
          rw [intsD_app]
          refine kN 1 rfl ?_
          cases h
          exact Weak_trans (Weak_keep 2 hm [0, 1, 2, 3, 9, 10, 24, 25, 26, 47, 48, 49] [2] _ _ rfl rfl rfl) (Weak_reset 2 hm hz [0, 1, 2, 3, 9, 10, 24, 25, 26, 47, 48, 49] _ _ rfl rfl)
         refine ACode_skip ?_
         cases h
         exact Weak_keep 2 hm [0, 1, 2, 3, 9, 10, 24, 25, 26, 47, 48, 49] [2] _ _ rfl rfl rfl
        refine (ACode_region ?_)
        refine AOps_q 81 _ rfl rfl rfl (QOp_add _ _ _ _ _ _ _ rfl rfl rfl) ?_
        refine kN 1 rfl ?_
        exact ⟨k1, _, _, Nat.lt_succ_self _, Weak_keep 2 hm [0, 1, 2, 3, 9, 10, 24, 25, 26, 47, 48, 49] [2] _ _ rfl rfl rfl, _, _, rfl, rfl, h⟩
       refine ACode_exit ?_
       cases h
       exact Weak_keep 2 hm [0, 1, 2, 3, 9, 10, 24, 25, 26] [2] _ _ rfl rfl rfl
     refine (ACode_region ?_)
     refine kM 2 rfl ?_
     refine bsplit (p1.isEmpty) (fun hb26 => ?_) (fun hb26 => ?_)
     ·have h := iteT hb26 h
      refine kC [] 84 (.d (.se none)) [.ref (.vec 1 1), .vec 1 (intsD x7), .vec 0 (intsD s25)] rfl Try.call103 rfl rfl (cloneB_ac p1 hb26) rfl ?_
      refine kM 1 rfl ?_
      refine AOps_buildSlice 86 _ _ _ [_] (intsD ([(p2.getD x6.toNat 0)])) _ rfl rfl rfl rfl rfl (by decide) Try.underlying24 Try.sizeOf2 (zero_of Try.typeInfo2 rfl) rfl rfl (intsD_one _) ?_
      obtain ⟨hc28, h⟩ := guardO h
      refine AOps_append0 87 _ _ _ _ _ _ _ _ _ _ rfl rfl rfl rfl rfl rfl rfl Try.underlying24 Try.type2 rfl rfl rfl (by decide) rfl rfl rfl (intsD_one _) (by rw [intsD_length]; exact hc28.1) (by rw [intsD_length]; exact hc28.2) ?_
      refine kM 2 rfl ?_
      obtain ⟨r29, hr29, h⟩ := bindO h
      refine AOps_callL [0, 1] 90 _ _ _ _ _ _ _ _ _ _ rfl rfl rfl rfl rfl rfl rfl Try.call79 rfl (nodupB_sound _ rfl) rfl rfl rfl (hself p0 ([(p2.getD x6.toNat 0)]) s25 x7 _ hr29) ?_
      rintro _ _ ⟨rfl, rfl⟩
      refine ⟨(allc (trivial) (allc (intsD_flat _) (fun _ h => nomatch h))), (fun _ h => nomatch h), AOps_as 90 (v' := .tup []) (H' := [.ref (.vec 1 2), .vec 2 (intsD r29), .vec 0 (intsD s25), .vec 0 (intsD ([(p2.getD x6.toNat 0)])), .vec 0 (intsD ([(p2.getD x6.toNat 0)]))]) rfl rfl ?_⟩
      refine AOps_nil ?_
      cases h
      exact ⟨_, rfl, Weak_trans (Weak_keep 2 hm [0, 1, 2, 3, 24, 25, 26] [] _ _ rfl rfl rfl) (Weak_reset 2 hm hz [0, 1, 2, 3, 24, 25, 26] _ _ rfl rfl)⟩
     have h := iteF hb26 h
     obtain ⟨r30, hr30, h⟩ := bindO h
     refine kC [] 84 (.vec 3 0) [.ref (.vec 1 1), .vec 1 (intsD x7), .vec 0 (intsD s25), .vec 0 (intsD r30)] rfl Try.call103 rfl rfl (cloneA_ac p1 _ hb26 hr30) rfl ?_
     refine kM 1 rfl ?_
     refine AOps_buildSlice 86 _ _ _ [_] (intsD ([(p2.getD x6.toNat 0)])) _ rfl rfl rfl rfl rfl (by decide) Try.underlying24 Try.sizeOf2 (zero_of Try.typeInfo2 rfl) rfl rfl (intsD_one _) ?_
     obtain ⟨hc31, h⟩ := guardO h
     refine AOps_append 87 _ _ _ _ _ _ _ _ _ _ _ _ rfl rfl rfl rfl rfl rfl rfl Try.underlying24 Try.type2 rfl rfl rfl (by decide) rfl rfl rfl rfl (intsD_one _) (by rw [intsD_length, intsD_length]; exact hc31) ?_
     rw [intsD_app]
     refine kM 2 rfl ?_
     obtain ⟨r32, hr32, h⟩ := bindO h
     refine AOps_callL [0, 1] 90 _ _ _ _ _ _ _ _ _ _ rfl rfl rfl rfl rfl rfl rfl Try.call79 rfl (nodupB_sound _ rfl) rfl rfl rfl (hself p0 (r30 ++ ([(p2.getD x6.toNat 0)])) s25 x7 _ hr32) ?_
     rintro _ _ ⟨rfl, rfl⟩
     refine ⟨(allc (trivial) (allc (intsD_flat _) (fun _ h => nomatch h))), (fun _ h => nomatch h), AOps_as 90 (v' := .tup []) (H' := [.ref (.vec 1 2), .vec 2 (intsD r32), .vec 0 (intsD s25), .vec 1 (intsD (r30 ++ ([(p2.getD x6.toNat 0)]))), .vec 0 (intsD ([(p2.getD x6.toNat 0)]))]) rfl rfl ?_⟩
     refine AOps_nil ?_
     cases h
     exact ⟨_, rfl, Weak_trans (Weak_keep 2 hm [0, 1, 2, 3, 24, 25, 26] [] _ _ rfl rfl rfl) (Weak_reset 2 hm hz [0, 1, 2, 3, 24, 25, 26] _ _ rfl rfl)⟩
    refine (ACode_region ?_)
    refine AOps_q 91 _ rfl rfl rfl (QOp_add _ _ _ _ _ _ _ rfl rfl rfl) ?_
    refine kN 1 rfl ?_
    exact ⟨k0, _, _, Nat.lt_succ_self _, Weak_keep 2 hm [0, 1, 2, 3, 24, 25, 26] [] _ _ rfl rfl rfl, _, _, rfl, rfl, h⟩
   refine ACode_exit ?_
   cases h
   exact ⟨_, _, fun r a w h => ⟨r, h⟩, _, _, [], _, .nil, rfl, rfl, rfl, rfl, rfl⟩

-- loop.example/g01362/impl.LesserPart
def impl_LesserPart (k : Nat) (p0 : Col) : Option (Option (List Int) × Int) :=
 (impl_Colouring_code k p0 (some (impl_always))).bind fun r1 => (if !decide (r1 = 0) then some (none, r1) else (impl_Colouring_points k p0).bind fun r3 => (impl_Colouring_lesser k p0 ([]) r3 ([] : List Int)).bind fun r4 => some (some r4, 0))
set_option maxRecDepth 100000 in
theorem impl_LesserPart_ac (k : Nat) (p0 : Col) (r : Option (List Int) × Int) (h : impl_LesserPart k p0 = some r) : AC Try.prog 23 [.d (.agg (colD p0))] [] (fun res H' => res = [ownA 0 (r.1.map intsD), iV r.2] ∧ H' = [] ++ ownH (r.1.map intsD)) := by
 refine AC_of_body false Try.func23 rfl Try.ntmps23 (rvs := [.tmp 2, .tmp 3]) rfl rfl (fun G hG => ?_)
 have hm : G.H.length = 0 := by rw [hG]; rfl
 have hz : zeroG G.H = true := by rw [hG]; rfl
 unfold impl_LesserPart at h
 refine kR ?_
 refine AOps_boxI 1 _ _ (.agg (colD p0)) (colD p0) rfl (colD_one _) rfl rfl rfl rfl rfl ?_
 refine kN 2 rfl ?_
 refine ACode_seq ?_
 refine kR ?_
 obtain ⟨r1, hr1, h⟩ := bindO h
 refine kC [] 6 (iV r1) [] rfl Try.call47 rfl rfl (impl_Colouring_code_ac k p0 (some (impl_always)) 45 ([]) Try.call45 (fun r h => by cases h; exact impl_always_ac) _ hr1) rfl ?_
 refine kN 1 rfl ?_
 refine kR ?_
 refine kM 1 rfl ?_
 refine AOps_q 8 _ rfl rfl rfl (QOp_neq _ _ _ _ _ _ _ rfl rfl rfl) ?_
 refine AOps_nil ?_
 refine kI h rfl (fun h _ => ?_) (fun h _ => ?_)
 ·refine kR ?_
  refine kN 3 rfl ?_
  refine ACode_ret ?_
  cases h
  exact ⟨_, _, fun r a w h => ⟨r, h⟩, _, _, [], _, (.cons (ResV_tmp _ _ rfl) (.cons (ResV_tmp _ _ rfl) .nil)), rfl, rfl, rfl, rfl, rfl⟩
 refine ACode_skip ?_
 refine kR ?_
 refine AOps_buildSlice 10 _ _ _ [] (intsD ([] : List Int)) _ rfl rfl rfl rfl rfl (by decide) Try.underlying24 Try.sizeOf2 (zero_of Try.typeInfo2 rfl) rfl rfl (intsD_one _) ?_
 refine AOps_alloc 5 _ _ ([.sl (some true) []]) (zero_of Try.typeInfo24 rfl) (by rfl) rfl rfl rfl rfl ?_
 refine AOps_storeR 1 _ _ _ _ _ rfl rfl rfl rfl rfl rfl rfl rfl Try.sizeOf24 (fun r a w hr => vec_one hr rfl rfl rfl) ?_
 refine AOps_nil ?_
 refine kR ?_
 obtain ⟨r3, hr3, h⟩ := bindO h
 refine kC [] 11 (.vec 2 0) [.vec 0 (intsD ([] : List Int)), .ref (.vec 0 0), .vec 0 (intsD r3)] rfl Try.call80 rfl rfl (impl_Colouring_points_ac k p0 _ hr3) rfl ?_
 obtain ⟨r4, hr4, h⟩ := bindO h
 refine AOps_callL [1, 0] 12 _ _ _ _ _ _ _ _ _ _ rfl rfl rfl rfl rfl rfl rfl Try.call79 rfl (nodupB_sound _ rfl) rfl rfl rfl (impl_Colouring_lesser_ac k p0 ([]) r3 ([] : List Int) _ hr4) ?_
 rintro _ _ ⟨rfl, rfl⟩
 refine ⟨(allc (trivial) (allc (intsD_flat _) (fun _ h => nomatch h))), (fun _ h => nomatch h), AOps_as 12 (v' := .tup []) (H' := [.vec 1 (intsD r4), .ref (.vec 0 1), .vec 0 (intsD r3)]) rfl rfl ?_⟩
 refine AOps_nil ?_
 refine kR ?_
 refine AOps_q 13 _ rfl rfl rfl (QOp_load_ref _ _ _ _ rfl Try.isAgg24 rfl rfl) ?_
 refine kN 2 rfl ?_
 refine ACode_ret ?_
 cases h
 exact ⟨_, _, Weak_reset 0 hm hz [2, 3] _ _ rfl rfl, _, _, [0], _, (.cons (ResV_tmp _ _ rfl) (.cons (ResV_tmp _ _ rfl) .nil)), rfl, rfl, rfl, rfl, rfl⟩

-- loop.example/g01362/laws.likeInts
def laws_likeInts_l0 (p0 : List Int) (p1 : List Int) : Nat → Int → Option (Sum (Unit) (Bool))
 | 0, _ => none
 | k0 + 1, x2 => (if decide (x2 < (p0.length : Int)) then (if 0 ≤ x2 ∧ x2 < (p0.length : Int) then (if 0 ≤ x2 ∧ x2 < (p1.length : Int) then (if !decide ((p0.getD x2.toNat 0) = (p1.getD x2.toNat 0)) then some (.inr false) else laws_likeInts_l0 p0 p1 k0 (w64 (x2 + 1))) else none) else none) else some (.inl ()))
def laws_likeInts (k : Nat) (p0 : List Int) (p1 : List Int) : Option (Bool) :=
 (if !decide ((p0.length : Int) = (p1.length : Int)) then some false else (laws_likeInts_l0 p0 p1 k 0 : Option (Sum (Unit) (Bool))).bind fun os7 => (match os7 with | .inl s7 => some true | .inr rr => some rr))
set_option maxRecDepth 100000 in
theorem laws_likeInts_ac (k : Nat) (p0 : List Int) (p1 : List Int) (r : Bool) (h : laws_likeInts k p0 p1 = some r) : AC Try.prog 25 [.d (.sl none (intsD p0)), .d (.sl none (intsD p1))] [] (fun res H' => res = [bV r] ∧ H' = []) := by
 refine AC_of_body true Try.func25 rfl Try.ntmps25 (rvs := [.tmp 4]) rfl rfl (fun G hG => ?_)
 have hm : G.H.length = 0 := by rw [hG]; rfl
 have hz : zeroG G.H = true := by rw [hG]; rfl
 unfold laws_likeInts at h
 refine kR ?_
 refine kN 1 rfl ?_
 refine ACode_seq ?_
 refine kR ?_
 refine kM 1 rfl ?_
 refine AOps_q 7 _ rfl rfl rfl (QOp_len_sl _ _ _ _ _ _ _ (intsD_length _) rfl rfl rfl rfl Try.underlying24 rfl) ?_
 refine kM 1 rfl ?_
 refine AOps_q 9 _ rfl rfl rfl (QOp_len_sl _ _ _ _ _ _ _ (intsD_length _) rfl rfl rfl rfl Try.underlying24 rfl) ?_
 refine AOps_q 10 _ rfl rfl rfl (QOp_neq _ _ _ _ _ _ _ rfl rfl rfl) ?_
 refine AOps_nil ?_
 refine kI h rfl (fun h _ => ?_) (fun h _ => ?_)
 ·refine kR ?_
  refine kN 1 rfl ?_
  refine ACode_ret ?_
  cases h
  exact ⟨_, _, fun r a w h => ⟨r, h⟩, _, _, [], _, (.cons (ResV_tmp _ _ rfl) .nil), rfl, rfl, rfl, rfl, rfl⟩
 refine ACode_skip ?_
 refine kO (fun s7 => []) (fun s7 => []) h (fun os7 h hks7 => ?_) (fun s7 h => ?_)
 ·refine kR ?_
  refine kN 1 rfl ?_
  refine ACode_block ?_
  refine ACode_loopW (fun k0 E H => ∃ (x2 : Int), E = [(0, .d (.sl none (intsD p0))), (1, .d (.sl none (intsD p1))), (5, iV x2)] ∧ H = [] ∧ laws_likeInts_l0 p0 p1 k0 x2 = some os7) k _ _ (Weak_keep 0 hm [0, 1, 5] [] _ _ rfl rfl rfl) ⟨_, rfl, rfl, h⟩ ?_
  clear h
  rintro k0 E H ⟨x2, rfl, rfl, h⟩
  cases k0 with
  | zero => cases (show (none : Option (Sum (Unit) (Bool))) = some _ from h)
  | succ k0 =>
   rw [laws_likeInts_l0] at h
   refine ACode_seq ?_
   refine kR ?_
   refine kM 2 rfl ?_
   refine AOps_q 13 _ rfl rfl rfl (QOp_len_sl _ _ _ _ _ _ _ (intsD_length _) rfl rfl rfl rfl Try.underlying24 rfl) ?_
   refine AOps_q 14 _ rfl rfl rfl (QOp_lss _ _ _ _ _ _ _ rfl rfl rfl) ?_
   refine AOps_nil ?_
   refine kI h rfl (fun h _ => ?_) (fun h _ => ?_)
   ·refine ACode_skip ?_
    refine ACode_seq ?_
    refine ACode_block ?_
    refine ACode_seq (ACode_quiet mixed (by kernel_rfl) ?_)
    refine kQ 2 rfl ?_
    obtain ⟨hc4, h⟩ := guardO h
    refine AQ_q 19 _ rfl rfl rfl (QOp_indexAddr_sl _ _ _ _ _ _ _ _ rfl Try.underlying24 Try.sizeOf2 hc4.1 (by rw [intsD_length]; exact hc4.2) rfl rfl) ?_
    refine AQ_q 20 _ rfl rfl rfl (QOp_load_pv _ _ _ _ _ rfl Try.isAgg2 rfl (intsD_get _ _ 0 (by omega))) ?_
    refine kQ 2 rfl ?_
    obtain ⟨hc5, h⟩ := guardO h
    refine AQ_q 23 _ rfl rfl rfl (QOp_indexAddr_sl _ _ _ _ _ _ _ _ rfl Try.underlying24 Try.sizeOf2 hc5.1 (by rw [intsD_length]; exact hc5.2) rfl rfl) ?_
    refine AQ_q 24 _ rfl rfl rfl (QOp_load_pv _ _ _ _ _ rfl Try.isAgg2 rfl (intsD_get _ _ 0 (by omega))) ?_
    refine AQ_q 25 _ rfl rfl rfl (QOp_neq _ _ _ _ _ _ _ rfl rfl rfl) ?_
    refine AQ_nil ?_
    refine kI h rfl (fun h _ => ?_) (fun h _ => ?_)
    ·refine kR ?_
     refine kN 1 rfl ?_
     refine ACode_ret ?_
     cases h
     have h := hks7
     cases h
     exact ⟨_, _, fun r a w h => ⟨r, h⟩, _, _, [], _, (.cons (ResV_tmp _ _ rfl) .nil), rfl, rfl, rfl, rfl, rfl⟩
    refine ACode_skip ?_
    refine (ACode_region ?_)
    refine kM 1 rfl ?_
    refine AOps_q 16 _ rfl rfl rfl (QOp_add _ _ _ _ _ _ _ rfl rfl rfl) ?_
    refine kN 1 rfl ?_
    exact ⟨k0, _, _, Nat.lt_succ_self _, Weak_keep 0 hm [0, 1, 5] [] _ _ rfl rfl rfl, _, rfl, rfl, h⟩
   refine ACode_exit ?_
   cases h
   exact ⟨_, rfl, Weak_keep 0 hm [] [] _ _ rfl rfl rfl⟩
 refine kR ?_
 refine kN 1 rfl ?_
 refine ACode_ret ?_
 cases h
 exact ⟨_, _, fun r a w h => ⟨r, h⟩, _, _, [], _, (.cons (ResV_tmp _ _ rfl) .nil), rfl, rfl, rfl, rfl, rfl⟩

-- loop.example/g01362/impl.size[int64]
def impl_size (p0 : List Int) : Int :=
 (p0.length : Int)
set_option maxRecDepth 100000 in
theorem impl_size_ac (p0 : List Int) : AC Try.prog 55 [.d (.sl none (intsD p0))] [] (fun res H' => res = [iV (impl_size p0)] ∧ H' = []) := by
 refine AC_of_body true Try.func55 rfl Try.ntmps55 (rvs := [.tmp 2]) rfl rfl (fun G hG => ?_)
 have hm : G.H.length = 0 := by rw [hG]; rfl
 have hz : zeroG G.H = true := by rw [hG]; rfl
 obtain ⟨r, h⟩ : ∃ r, impl_size p0 = r := ⟨_, rfl⟩
 rw [h]
 unfold impl_size at h
 refine kR ?_
 refine kN 1 rfl ?_
 refine kR ?_
 refine kM 1 rfl ?_
 refine AOps_q 4 _ rfl rfl rfl (QOp_len_sl _ _ _ _ _ _ _ (intsD_length _) rfl rfl rfl rfl Try.underlying24 rfl) ?_
 refine kN 1 rfl ?_
 refine ACode_ret ?_
 cases h
 exact ⟨_, _, fun r a w h => ⟨r, h⟩, _, _, [], _, (.cons (ResV_tmp _ _ rfl) .nil), rfl, rfl, rfl, rfl, rfl⟩

-- slices.IndexFunc[[]int64,int64]
def slices_IndexFunc_l0 (p0 : List Int) (p1 : Int → Option (Bool)) : Nat → Int → Option (Sum (Unit) (Int))
 | 0, _ => none
 | k0 + 1, x1 => (if decide (x1 < (p0.length : Int)) then (if 0 ≤ x1 ∧ x1 < (p0.length : Int) then (p1 (p0.getD x1.toNat 0)).bind fun r4 => (if r4 then some (.inr x1) else slices_IndexFunc_l0 p0 p1 k0 (w64 (x1 + 1))) else none) else some (.inl ()))
def slices_IndexFunc (k : Nat) (p0 : List Int) (p1 : Int → Option (Bool)) : Option (Int) :=
 (slices_IndexFunc_l0 p0 p1 k 0 : Option (Sum (Unit) (Int))).bind fun os6 => (match os6 with | .inl s6 => some (-1) | .inr rr => some rr)
set_option maxRecDepth 100000 in
theorem slices_IndexFunc_ac (k : Nat) (p0 : List Int) (p1 : Int → Option (Bool)) (g_p1 : FuncId) (c_p1 : List D) (hg_p1 : ∀ args w, (callFunc g_p1 args).run Try.prog w = .ok (.enter g_p1 args) w) (hf_p1 : ∀ (a0 : Int) (r : Bool), p1 a0 = some r → AC Try.prog g_p1 ([iV a0] ++ c_p1.map AV.d) [] (fun res H' => res = [bV r] ∧ H' = [])) (r : Int) (h : slices_IndexFunc k p0 p1 = some r) : AC Try.prog 137 [.d (.sl none (intsD p0)), .d (.clo g_p1 c_p1)] [] (fun res H' => res = [iV r] ∧ H' = []) := by
 refine AC_of_body true Try.func137 rfl Try.ntmps137 (rvs := [.tmp 4]) rfl rfl (fun G hG => ?_)
 have hm : G.H.length = 0 := by rw [hG]; rfl
 have hz : zeroG G.H = true := by rw [hG]; rfl
 unfold slices_IndexFunc at h
 refine kR ?_
 refine kN 1 rfl ?_
 refine kO (fun s6 => []) (fun s6 => []) h (fun os6 h hks6 => ?_) (fun s6 h => ?_)
 ·refine kR ?_
  refine kM 1 rfl ?_
  refine AOps_q 7 _ rfl rfl rfl (QOp_len_sl _ _ _ _ _ _ _ (intsD_length _) rfl rfl rfl rfl Try.underlying24 rfl) ?_
  refine kN 1 rfl ?_
  refine ACode_block ?_
  refine ACode_loopW (fun k0 E H => ∃ (x1 : Int), E = [(0, .d (.sl none (intsD p0))), (1, .d (.clo g_p1 c_p1)), (7, iV (p0.length : Int)), (8, iV x1)] ∧ H = [] ∧ slices_IndexFunc_l0 p0 p1 k0 x1 = some os6) k _ _ (Weak_keep 0 hm [0, 1, 7, 8] [] _ _ rfl rfl rfl) ⟨_, rfl, rfl, h⟩ ?_
  clear h
  rintro k0 E H ⟨x1, rfl, rfl, h⟩
  cases k0 with
  | zero => cases (show (none : Option (Sum (Unit) (Int))) = some _ from h)
  | succ k0 =>
   rw [slices_IndexFunc_l0] at h
   refine kR ?_
   refine AOps_q 9 _ rfl rfl rfl (QOp_lss _ _ _ _ _ _ _ rfl rfl rfl) ?_
   refine AOps_nil ?_
   refine ACode_seq ?_
   refine kI h rfl (fun h _ => ?_) (fun h _ => ?_)
   ·refine ACode_skip ?_
    refine ACode_seq ?_
    refine ACode_block ?_
    refine kR ?_
    refine kN 2 rfl ?_
    refine kR ?_
    refine kM 3 rfl ?_
    obtain ⟨hc3, h⟩ := guardO h
    refine AOps_q 14 _ rfl rfl rfl (QOp_indexAddr_sl _ _ _ _ _ _ _ _ rfl Try.underlying24 Try.sizeOf2 hc3.1 (by rw [intsD_length]; exact hc3.2) rfl rfl) ?_
    refine AOps_q 15 _ rfl rfl rfl (QOp_load_pv _ _ _ _ _ rfl Try.isAgg2 rfl (intsD_get _ _ 0 (by omega))) ?_
    obtain ⟨r4, hr4, h⟩ := bindO h
    refine kC [] 16 (bV r4) [] rfl hg_p1 rfl (viewA_mapD _) (hf_p1 (p0.getD x1.toNat 0) _ hr4) rfl ?_
    refine AOps_nil ?_
    refine kI h rfl (fun h _ => ?_) (fun h _ => ?_)
    ·refine kR ?_
     refine kN 2 rfl ?_
     refine ACode_ret ?_
     cases h
     have h := hks6
     cases h
     exact ⟨_, _, fun r a w h => ⟨r, h⟩, _, _, [], _, (.cons (ResV_tmp _ _ rfl) .nil), rfl, rfl, rfl, rfl, rfl⟩
    refine ACode_skip ?_
    refine (ACode_region ?_)
    refine AOps_q 18 _ rfl rfl rfl (QOp_add _ _ _ _ _ _ _ rfl rfl rfl) ?_
    refine kN 1 rfl ?_
    exact ⟨k0, _, _, Nat.lt_succ_self _, Weak_keep 0 hm [0, 1, 7, 8] [] _ _ rfl rfl rfl, _, rfl, rfl, h⟩
   refine ACode_exit ?_
   cases h
   exact ⟨_, rfl, Weak_keep 0 hm [] [] _ _ rfl rfl rfl⟩
 refine kR ?_
 refine kN 1 rfl ?_
 refine ACode_ret ?_
 cases h
 exact ⟨_, _, fun r a w h => ⟨r, h⟩, _, _, [], _, (.cons (ResV_tmp _ _ rfl) .nil), rfl, rfl, rfl, rfl, rfl⟩

-- slices.ContainsFunc[[]int64,int64]
def slices_ContainsFunc (k : Nat) (p0 : List Int) (p1 : Int → Option (Bool)) : Option (Bool) :=
 (slices_IndexFunc k p0 p1).bind fun r1 => some (decide (0 ≤ r1))
set_option maxRecDepth 100000 in
theorem slices_ContainsFunc_ac (k : Nat) (p0 : List Int) (p1 : Int → Option (Bool)) (g_p1 : FuncId) (c_p1 : List D) (hg_p1 : ∀ args w, (callFunc g_p1 args).run Try.prog w = .ok (.enter g_p1 args) w) (hf_p1 : ∀ (a0 : Int) (r : Bool), p1 a0 = some r → AC Try.prog g_p1 ([iV a0] ++ c_p1.map AV.d) [] (fun res H' => res = [bV r] ∧ H' = [])) (r : Bool) (h : slices_ContainsFunc k p0 p1 = some r) : AC Try.prog 119 [.d (.sl none (intsD p0)), .d (.clo g_p1 c_p1)] [] (fun res H' => res = [bV r] ∧ H' = []) := by
 refine AC_of_body true Try.func119 rfl Try.ntmps119 (rvs := [.tmp 4]) rfl rfl (fun G hG => ?_)
 have hm : G.H.length = 0 := by rw [hG]; rfl
 have hz : zeroG G.H = true := by rw [hG]; rfl
 unfold slices_ContainsFunc at h
 refine kR ?_
 refine kN 1 rfl ?_
 refine kR ?_
 refine kM 2 rfl ?_
 obtain ⟨r1, hr1, h⟩ := bindO h
 refine kC [] 7 (iV r1) [] rfl Try.call137 rfl rfl (slices_IndexFunc_ac k p0 p1 g_p1 c_p1 hg_p1 hf_p1 _ hr1) rfl ?_
 refine AOps_q 8 _ rfl rfl rfl (QOp_geq _ _ _ _ _ _ _ rfl rfl rfl) ?_
 refine kN 1 rfl ?_
 refine ACode_ret ?_
 cases h
 exact ⟨_, _, fun r a w h => ⟨r, h⟩, _, _, [], _, (.cons (ResV_tmp _ _ rfl) .nil), rfl, rfl, rfl, rfl, rfl⟩

-- loop.example/g01362/impl.areIn$1
def impl_areIn_c1 (p0 : Int) (p1 : Int) (p2 : Int) : Bool :=
 !(impl_in p0 p1 p2)
set_option maxRecDepth 100000 in
theorem impl_areIn_c1_ac (p0 : Int) (p1 : Int) (p2 : Int) : AC Try.prog 120 [iV p0, .d (.pv ([iD p1]) 0), .d (.pv ([iD p2]) 0)] [] (fun res H' => res = [bV (impl_areIn_c1 p0 p1 p2)] ∧ H' = []) := by
 refine AC_of_body true Try.func120 rfl Try.ntmps120 (rvs := [.tmp 4]) rfl rfl (fun G hG => ?_)
 have hm : G.H.length = 0 := by rw [hG]; rfl
 have hz : zeroG G.H = true := by rw [hG]; rfl
 obtain ⟨r, h⟩ : ∃ r, impl_areIn_c1 p0 p1 p2 = r := ⟨_, rfl⟩
 rw [h]
 unfold impl_areIn_c1 at h
 refine kR ?_
 refine kN 1 rfl ?_
 refine kR ?_
 refine kM 1 rfl ?_
 refine AOps_q 6 _ rfl rfl rfl (QOp_load_pv _ _ _ _ _ rfl Try.isAgg2 rfl rfl) ?_
 refine AOps_q 7 _ rfl rfl rfl (QOp_load_pv _ _ _ _ _ rfl Try.isAgg2 rfl rfl) ?_
 refine kC [] 8 (bV (impl_in p0 p1 p2)) [] rfl Try.call37 rfl rfl (impl_in_ac p0 p1 p2) rfl ?_
 refine AOps_q 9 _ rfl rfl rfl (QOp_not _ _ _ rfl rfl) ?_
 refine kN 1 rfl ?_
 refine ACode_ret ?_
 cases h
 exact ⟨_, _, fun r a w h => ⟨r, h⟩, _, _, [], _, (.cons (ResV_tmp _ _ rfl) .nil), rfl, rfl, rfl, rfl, rfl⟩

-- loop.example/g01362/impl.areIn
def impl_areIn (k : Nat) (p0 : List Int) (p1 : Int) (p2 : Int) (p3 : Int) : Option (Bool) :=
 ((if decide ((impl_size p0) = p1) then (slices_ContainsFunc k p0 (fun a0 => some (impl_areIn_c1 a0 p2 p3))).bind fun r3 => some (!r3) else some false) : Option (Bool)).bind fun s4 => some s4
set_option maxRecDepth 100000 in
theorem impl_areIn_ac (k : Nat) (p0 : List Int) (p1 : Int) (p2 : Int) (p3 : Int) (r : Bool) (h : impl_areIn k p0 p1 p2 p3 = some r) : AC Try.prog 92 [.d (.sl none (intsD p0)), iV p1, iV p2, iV p3] [] (fun res H' => res = [bV r] ∧ H' = []) := by
 refine AC_of_body true Try.func92 rfl Try.ntmps92 (rvs := [.tmp 8]) rfl rfl (fun G hG => ?_)
 have hm : G.H.length = 0 := by rw [hG]; rfl
 have hz : zeroG G.H = true := by rw [hG]; rfl
 unfold impl_areIn at h
 refine kR ?_
 refine AOps_boxI 6 _ _ (iD p2) _ rfl (fun c hc => by cases hc with | head => rfl | tail _ h => cases h) rfl rfl rfl rfl rfl ?_
 refine AOps_boxI 7 _ _ (iD p3) _ rfl (fun c hc => by cases hc with | head => rfl | tail _ h => cases h) rfl rfl rfl rfl rfl ?_
 refine kN 1 rfl ?_
 refine kB (fun s4 => [(8, bV s4)]) (fun s4 => []) h (fun s4 h => ?_) (fun s4 h => ?_)
 ·refine (ACode_region ?_)
  refine kM 1 rfl ?_
  refine kC [] 10 (iV (impl_size p0)) [] rfl Try.call55 rfl rfl (impl_size_ac p0) rfl ?_
  refine kM 1 rfl ?_
  refine AOps_q 12 _ rfl rfl rfl (QOp_eql _ _ _ _ _ _ _ rfl rfl rfl) ?_
  refine kM 1 rfl ?_
  refine AOps_case 13 _ rfl (fun hb2 => ?_) (fun hb2 => ?_)
  ·have h := iteT hb2 h
   refine kM 1 rfl ?_
   refine AOps_q 15 _ rfl rfl rfl (QOp_makeFuncD _ _ _ _ rfl rfl rfl) ?_
   obtain ⟨r3, hr3, h⟩ := bindO h
   refine kC [] 16 (bV r3) [] rfl Try.call119 rfl rfl (slices_ContainsFunc_ac k p0 (fun a0 => some (impl_areIn_c1 a0 p2 p3)) 120 ([.pv ([iD p2]) 0, .pv ([iD p3]) 0]) Try.call120 (fun a0 r h => by cases h; exact impl_areIn_c1_ac a0 p2 p3) _ hr3) rfl ?_
   refine AOps_q 17 _ rfl rfl rfl (QOp_not _ _ _ rfl rfl) ?_
   refine kN 2 rfl ?_
   cases h
   exact Weak_keep 0 hm [8] [] _ _ rfl rfl rfl
  have h := iteF hb2 h
  refine AOps_skip 14 rfl rfl rfl ?_
  refine AOps_skip 15 rfl rfl rfl ?_
  refine AOps_skip 16 rfl rfl rfl ?_
  refine AOps_skip 17 rfl rfl rfl ?_
  refine kN 2 rfl ?_
  cases h
  exact Weak_keep 0 hm [8] [] _ _ rfl rfl rfl
 refine ACode_ret ?_
 cases h
 exact ⟨_, _, fun r a w h => ⟨r, h⟩, _, _, [], _, (.cons (ResV_tmp _ _ rfl) .nil), rfl, rfl, rfl, rfl, rfl⟩

-- loop.example/g01362/impl.size[[]int64]
def impl_size_R (p0 : List (List Int)) : Int :=
 (p0.length : Int)
set_option maxRecDepth 100000 in
theorem impl_size_R_ac (p0 : List (List Int)) : AC Try.prog 115 [.d (.sl none (rowsD p0))] [] (fun res H' => res = [iV (impl_size_R p0)] ∧ H' = []) := by
 refine AC_of_body true Try.func115 rfl Try.ntmps115 (rvs := [.tmp 2]) rfl rfl (fun G hG => ?_)
 have hm : G.H.length = 0 := by rw [hG]; rfl
 have hz : zeroG G.H = true := by rw [hG]; rfl
 obtain ⟨r, h⟩ : ∃ r, impl_size_R p0 = r := ⟨_, rfl⟩
 rw [h]
 unfold impl_size_R at h
 refine kR ?_
 refine kN 1 rfl ?_
 refine kR ?_
 refine kM 1 rfl ?_
 refine AOps_q 4 _ rfl rfl rfl (QOp_len_sl _ _ _ _ _ _ _ (rowsD_length _) rfl rfl rfl rfl Try.underlying41 rfl) ?_
 refine kN 1 rfl ?_
 refine ACode_ret ?_
 cases h
 exact ⟨_, _, fun r a w h => ⟨r, h⟩, _, _, [], _, (.cons (ResV_tmp _ _ rfl) .nil), rfl, rfl, rfl, rfl, rfl⟩

-- loop.example/g01362/impl.isRow
def impl_isRow_l0 (k : Nat) (p0 : List (List Int)) : Nat → Int → Option (Sum (Unit) (Bool))
 | 0, _ => none
 | k0 + 1, x1 => (if decide (x1 < (p0.length : Int)) then ((if 0 ≤ x1 ∧ x1 < (p0.length : Int) then ((impl_areIn k (p0.getD x1.toNat []) 2 (-1000) 1000).bind fun r4 => (if !r4 then some true else (if decide (0 < x1) then (if 0 ≤ w64 (x1 - 1) ∧ w64 (x1 - 1) < (p0.length : Int) then (if 0 ≤ (0 : Int) ∧ (0 : Int) < ((p0.getD (w64 (x1 - 1)).toNat []).length : Int) then (if 0 ≤ (0 : Int) ∧ (0 : Int) < ((p0.getD x1.toNat []).length : Int) then some (decide (((p0.getD x1.toNat []).getD (0 : Int).toNat 0) ≤ ((p0.getD (w64 (x1 - 1)).toNat []).getD (0 : Int).toNat 0))) else none) else none) else none) else some false)) : Option (Bool)).bind fun s10 => (if s10 then (some (.inr false)).bind fun rr => some (.inr rr) else some (.inl ())) else none) : Option (Sum (Unit) (Sum (Unit) (Bool)))).bind fun os12 => (match os12 with | .inl s12 => impl_isRow_l0 k p0 k0 (w64 (x1 + 1)) | .inr rr => some rr) else some (.inl ()))
def impl_isRow (k : Nat) (p0 : List (List Int)) : Option (Bool) :=
 (impl_isRow_l0 k p0 k 0 : Option (Sum (Unit) (Bool))).bind fun os13 => (match os13 with | .inl s13 => some (impl_in (impl_size_R p0) 1 17) | .inr rr => some rr)
set_option maxRecDepth 100000 in
theorem impl_isRow_ac (k : Nat) (p0 : List (List Int)) (r : Bool) (h : impl_isRow k p0 = some r) : AC Try.prog 84 [.d (.sl none (rowsD p0))] [] (fun res H' => res = [bV r] ∧ H' = []) := by
 refine AC_of_body true Try.func84 rfl Try.ntmps84 (rvs := [.tmp 2]) rfl rfl (fun G hG => ?_)
 have hm : G.H.length = 0 := by rw [hG]; rfl
 have hz : zeroG G.H = true := by rw [hG]; rfl
 unfold impl_isRow at h
 refine kR ?_
 refine kN 1 rfl ?_
 refine kO (fun s13 => [(0, .d (.sl none (rowsD p0)))]) (fun s13 => []) h (fun os13 h hks13 => ?_) (fun s13 h => ?_)
 ·refine kR ?_
  refine kM 1 rfl ?_
  refine AOps_q 6 _ rfl rfl rfl (QOp_len_sl _ _ _ _ _ _ _ (rowsD_length _) rfl rfl rfl rfl Try.underlying41 rfl) ?_
  refine kN 1 rfl ?_
  refine ACode_block ?_
  refine ACode_loopW (fun k0 E H => ∃ (x1 : Int), E = [(0, .d (.sl none (rowsD p0))), (5, .d (.sl none (rowsD p0))), (6, iV (p0.length : Int)), (7, iV x1)] ∧ H = [] ∧ impl_isRow_l0 k p0 k0 x1 = some os13) k _ _ (Weak_keep 0 hm [0, 5, 6, 7] [] _ _ rfl rfl rfl) ⟨_, rfl, rfl, h⟩ ?_
  clear h
  rintro k0 E H ⟨x1, rfl, rfl, h⟩
  cases k0 with
  | zero => cases (show (none : Option (Sum (Unit) (Bool))) = some _ from h)
  | succ k0 =>
   rw [impl_isRow_l0] at h
   refine kR ?_
   refine AOps_q 8 _ rfl rfl rfl (QOp_lss _ _ _ _ _ _ _ rfl rfl rfl) ?_
   refine AOps_nil ?_
   refine ACode_seq ?_
   refine kI h rfl (fun h _ => ?_) (fun h _ => ?_)
   ·refine ACode_skip ?_
    refine kO (fun s12 => [(0, .d (.sl none (rowsD p0))), (5, .d (.sl none (rowsD p0))), (6, iV (p0.length : Int)), (7, iV x1)]) (fun s12 => []) h (fun os12 h hks12 => ?_) (fun s12 h => ?_)
    ·refine ACode_block ?_
     refine kR ?_
     refine kM 1 rfl ?_
     obtain ⟨hc3, h⟩ := guardO h
     refine AOps_q 10 _ rfl rfl rfl (QOp_indexAddr_sl _ _ _ _ _ _ _ _ rfl Try.underlying41 Try.sizeOf24 hc3.1 (by rw [rowsD_length]; exact hc3.2) rfl rfl) ?_
     refine AOps_q 11 _ rfl rfl rfl (QOp_load_pv _ _ _ _ _ rfl Try.isAgg24 rfl (rowsD_get _ _ [] (by omega))) ?_
     refine kN 2 rfl ?_
     refine kB (fun s10 => [(0, .d (.sl none (rowsD p0))), (5, .d (.sl none (rowsD p0))), (6, iV (p0.length : Int)), (7, iV x1), (31, bV s10)]) (fun s10 => []) h (fun s10 h => ?_) (fun s10 h => ?_)
     ·refine (ACode_quiet mixed (by kernel_rfl) ?_)
      refine kQ 1 rfl ?_
      obtain ⟨r4, hr4, h⟩ := bindO h
      refine AQ_call 13 _ _ _ _ _ _ _ _ _ rfl rfl rfl rfl rfl rfl rfl Try.call92 rfl rfl rfl (impl_areIn_ac k (p0.getD x1.toNat []) 2 (-1000) 1000 _ hr4) ?_
      refine AQ_q 14 _ rfl rfl rfl (QOp_not _ _ _ rfl rfl) ?_
      refine kQ 1 rfl ?_
      refine AQ_case 15 _ rfl (fun hb5 => ?_) (fun hb5 => ?_)
      ·have h := iteT hb5 h
       refine AQ_skip 16 rfl rfl rfl ?_
       refine AQ_skip 17 rfl rfl rfl ?_
       refine AQ_skip 18 rfl rfl rfl ?_
       refine AQ_skip 19 rfl rfl rfl ?_
       refine AQ_skip 20 rfl rfl rfl ?_
       refine AQ_skip 21 rfl rfl rfl ?_
       refine AQ_skip 22 rfl rfl rfl ?_
       refine AQ_skip 23 rfl rfl rfl ?_
       refine AQ_skip 24 rfl rfl rfl ?_
       refine AQ_skip 25 rfl rfl rfl ?_
       refine AQ_skip 26 rfl rfl rfl ?_
       refine AQ_skip 27 rfl rfl rfl ?_
       refine AQ_skip 28 rfl rfl rfl ?_
       refine AQ_skip 29 rfl rfl rfl ?_
       refine AQ_skip 30 rfl rfl rfl ?_
       refine kQ 1 rfl ?_
       refine AQ_nil ?_
       cases h
       exact Weak_keep 0 hm [0, 5, 6, 7, 31] [] _ _ rfl rfl rfl
      have h := iteF hb5 h
      refine kQ 1 rfl ?_
      refine AQ_q 17 _ rfl rfl rfl (QOp_gtr _ _ _ _ _ _ _ rfl rfl rfl) ?_
      refine kQ 1 rfl ?_
      refine AQ_case 18 _ rfl (fun hb6 => ?_) (fun hb6 => ?_)
      ·have h := iteT hb6 h
       refine kQ 2 rfl ?_
       refine AQ_q 21 _ rfl rfl rfl (QOp_sub _ _ _ _ _ _ _ rfl rfl rfl) ?_
       obtain ⟨hc7, h⟩ := guardO h
       refine AQ_q 22 _ rfl rfl rfl (QOp_indexAddr_sl _ _ _ _ _ _ _ _ rfl Try.underlying41 Try.sizeOf24 hc7.1 (by rw [rowsD_length]; exact hc7.2) rfl rfl) ?_
       refine AQ_q 23 _ rfl rfl rfl (QOp_load_pv _ _ _ _ _ rfl Try.isAgg24 rfl (rowsD_get _ _ [] (by omega))) ?_
       obtain ⟨hc8, h⟩ := guardO h
       refine AQ_q 24 _ rfl rfl rfl (QOp_indexAddr_sl _ _ _ _ _ _ _ _ rfl Try.underlying24 Try.sizeOf2 hc8.1 (by rw [intsD_length]; exact hc8.2) rfl rfl) ?_
       refine AQ_q 25 _ rfl rfl rfl (QOp_load_pv _ _ _ _ _ rfl Try.isAgg2 rfl (intsD_get _ _ 0 (by omega))) ?_
       refine kQ 1 rfl ?_
       obtain ⟨hc9, h⟩ := guardO h
       refine AQ_q 27 _ rfl rfl rfl (QOp_indexAddr_sl _ _ _ _ _ _ _ _ rfl Try.underlying24 Try.sizeOf2 hc9.1 (by rw [intsD_length]; exact hc9.2) rfl rfl) ?_
       refine AQ_q 28 _ rfl rfl rfl (QOp_load_pv _ _ _ _ _ rfl Try.isAgg2 rfl (intsD_get _ _ 0 (by omega))) ?_
       refine AQ_q 29 _ rfl rfl rfl (QOp_geq _ _ _ _ _ _ _ rfl rfl rfl) ?_
       refine kQ 2 rfl ?_
       refine AQ_nil ?_
       cases h
       exact Weak_keep 0 hm [0, 5, 6, 7, 31] [] _ _ rfl rfl rfl
      have h := iteF hb6 h
      refine AQ_skip 19 rfl rfl rfl ?_
      refine AQ_skip 20 rfl rfl rfl ?_
      refine AQ_skip 21 rfl rfl rfl ?_
      refine AQ_skip 22 rfl rfl rfl ?_
      refine AQ_skip 23 rfl rfl rfl ?_
      refine AQ_skip 24 rfl rfl rfl ?_
      refine AQ_skip 25 rfl rfl rfl ?_
      refine AQ_skip 26 rfl rfl rfl ?_
      refine AQ_skip 27 rfl rfl rfl ?_
      refine AQ_skip 28 rfl rfl rfl ?_
      refine AQ_skip 29 rfl rfl rfl ?_
      refine kQ 2 rfl ?_
      refine AQ_nil ?_
      cases h
      exact Weak_keep 0 hm [0, 5, 6, 7, 31] [] _ _ rfl rfl rfl
     refine kI h rfl (fun h _ => ?_) (fun h _ => ?_)
     ·refine kR ?_
      refine kN 1 rfl ?_
      refine ACode_ret ?_
      obtain ⟨rr, hz16, h2⟩ := bindO h
      obtain rfl := Option.some.inj h2
      obtain rfl := Option.some.inj (show some rr = some _ from hks12)
      have h := hz16
      cases h
      have h := hks13
      cases h
      exact ⟨_, _, fun r a w h => ⟨r, h⟩, _, _, [], _, (.cons (ResV_tmp _ _ rfl) .nil), rfl, rfl, rfl, rfl, rfl⟩
     refine ACode_skip ?_
     cases h
     exact ⟨_, rfl, Weak_keep 0 hm [0, 5, 6, 7] [] _ _ rfl rfl rfl⟩
    refine (ACode_region ?_)
    refine AOps_q 32 _ rfl rfl rfl (QOp_add _ _ _ _ _ _ _ rfl rfl rfl) ?_
    refine kN 1 rfl ?_
    exact ⟨k0, _, _, Nat.lt_succ_self _, Weak_keep 0 hm [0, 5, 6, 7] [] _ _ rfl rfl rfl, _, rfl, rfl, h⟩
   refine ACode_exit ?_
   cases h
   exact ⟨_, rfl, Weak_keep 0 hm [0] [] _ _ rfl rfl rfl⟩
 refine kR ?_
 refine kM 1 rfl ?_
 refine kC [] 34 (iV (impl_size_R p0)) [] rfl Try.call115 rfl rfl (impl_size_R_ac p0) rfl ?_
 refine kC [] 35 (bV (impl_in (impl_size_R p0) 1 17)) [] rfl Try.call37 rfl rfl (impl_in_ac (impl_size_R p0) 1 17) rfl ?_
 refine kN 1 rfl ?_
 refine ACode_ret ?_
 cases h
 exact ⟨_, _, fun r a w h => ⟨r, h⟩, _, _, [], _, (.cons (ResV_tmp _ _ rfl) .nil), rfl, rfl, rfl, rfl, rfl⟩

-- loop.example/g01362/impl.bends
def impl_bends (p0 : List Int) (p1 : List Int) (p2 : List Int) : Option (Int) :=
 (if 0 ≤ (1 : Int) ∧ (1 : Int) < (p2.length : Int) then (if 0 ≤ (1 : Int) ∧ (1 : Int) < (p1.length : Int) then (if 0 ≤ (0 : Int) ∧ (0 : Int) < (p1.length : Int) then (if 0 ≤ (0 : Int) ∧ (0 : Int) < (p0.length : Int) then (if 0 ≤ (1 : Int) ∧ (1 : Int) < (p1.length : Int) then (if 0 ≤ (1 : Int) ∧ (1 : Int) < (p0.length : Int) then (if 0 ≤ (0 : Int) ∧ (0 : Int) < (p2.length : Int) then (if 0 ≤ (0 : Int) ∧ (0 : Int) < (p1.length : Int) then some (w64 ((w64 ((w64 ((p2.getD (1 : Int).toNat 0) - (p1.getD (1 : Int).toNat 0))) * (w64 ((p1.getD (0 : Int).toNat 0) - (p0.getD (0 : Int).toNat 0))))) - (w64 ((w64 ((p1.getD (1 : Int).toNat 0) - (p0.getD (1 : Int).toNat 0))) * (w64 ((p2.getD (0 : Int).toNat 0) - (p1.getD (0 : Int).toNat 0))))))) else none) else none) else none) else none) else none) else none) else none) else none)
set_option maxRecDepth 100000 in
theorem impl_bends_ac (p0 : List Int) (p1 : List Int) (p2 : List Int) (r : Int) (h : impl_bends p0 p1 p2 = some r) : AC Try.prog 116 [.d (.sl none (intsD p0)), .d (.sl none (intsD p1)), .d (.sl none (intsD p2))] [] (fun res H' => res = [iV r] ∧ H' = []) := by
 refine AC_of_body true Try.func116 rfl Try.ntmps116 (rvs := [.tmp 6]) rfl rfl (fun G hG => ?_)
 have hm : G.H.length = 0 := by rw [hG]; rfl
 have hz : zeroG G.H = true := by rw [hG]; rfl
 unfold impl_bends at h
 refine kR ?_
 refine kN 1 rfl ?_
 refine ACode_seq (ACode_quiet mixed (by kernel_rfl) ?_)
 refine kQ 1 rfl ?_
 obtain ⟨hc1, h⟩ := guardO h
 refine AQ_q 8 _ rfl rfl rfl (QOp_indexAddr_sl _ _ _ _ _ _ _ _ rfl Try.underlying24 Try.sizeOf2 hc1.1 (by rw [intsD_length]; exact hc1.2) rfl rfl) ?_
 refine AQ_q 9 _ rfl rfl rfl (QOp_load_pv _ _ _ _ _ rfl Try.isAgg2 rfl (intsD_get _ _ 0 (by omega))) ?_
 refine kQ 1 rfl ?_
 obtain ⟨hc2, h⟩ := guardO h
 refine AQ_q 11 _ rfl rfl rfl (QOp_indexAddr_sl _ _ _ _ _ _ _ _ rfl Try.underlying24 Try.sizeOf2 hc2.1 (by rw [intsD_length]; exact hc2.2) rfl rfl) ?_
 refine AQ_q 12 _ rfl rfl rfl (QOp_load_pv _ _ _ _ _ rfl Try.isAgg2 rfl (intsD_get _ _ 0 (by omega))) ?_
 refine AQ_q 13 _ rfl rfl rfl (QOp_sub _ _ _ _ _ _ _ rfl rfl rfl) ?_
 refine kQ 1 rfl ?_
 obtain ⟨hc3, h⟩ := guardO h
 refine AQ_q 15 _ rfl rfl rfl (QOp_indexAddr_sl _ _ _ _ _ _ _ _ rfl Try.underlying24 Try.sizeOf2 hc3.1 (by rw [intsD_length]; exact hc3.2) rfl rfl) ?_
 refine AQ_q 16 _ rfl rfl rfl (QOp_load_pv _ _ _ _ _ rfl Try.isAgg2 rfl (intsD_get _ _ 0 (by omega))) ?_
 refine kQ 1 rfl ?_
 obtain ⟨hc4, h⟩ := guardO h
 refine AQ_q 18 _ rfl rfl rfl (QOp_indexAddr_sl _ _ _ _ _ _ _ _ rfl Try.underlying24 Try.sizeOf2 hc4.1 (by rw [intsD_length]; exact hc4.2) rfl rfl) ?_
 refine AQ_q 19 _ rfl rfl rfl (QOp_load_pv _ _ _ _ _ rfl Try.isAgg2 rfl (intsD_get _ _ 0 (by omega))) ?_
 refine AQ_q 20 _ rfl rfl rfl (QOp_sub _ _ _ _ _ _ _ rfl rfl rfl) ?_
 refine AQ_q 21 _ rfl rfl rfl (QOp_mul _ _ _ _ _ _ _ rfl rfl rfl) ?_
 refine kQ 1 rfl ?_
 obtain ⟨hc5, h⟩ := guardO h
 refine AQ_q 23 _ rfl rfl rfl (QOp_indexAddr_sl _ _ _ _ _ _ _ _ rfl Try.underlying24 Try.sizeOf2 hc5.1 (by rw [intsD_length]; exact hc5.2) rfl rfl) ?_
 refine AQ_q 24 _ rfl rfl rfl (QOp_load_pv _ _ _ _ _ rfl Try.isAgg2 rfl (intsD_get _ _ 0 (by omega))) ?_
 refine kQ 1 rfl ?_
 obtain ⟨hc6, h⟩ := guardO h
 refine AQ_q 26 _ rfl rfl rfl (QOp_indexAddr_sl _ _ _ _ _ _ _ _ rfl Try.underlying24 Try.sizeOf2 hc6.1 (by rw [intsD_length]; exact hc6.2) rfl rfl) ?_
 refine AQ_q 27 _ rfl rfl rfl (QOp_load_pv _ _ _ _ _ rfl Try.isAgg2 rfl (intsD_get _ _ 0 (by omega))) ?_
 refine AQ_q 28 _ rfl rfl rfl (QOp_sub _ _ _ _ _ _ _ rfl rfl rfl) ?_
 refine kQ 1 rfl ?_
 obtain ⟨hc7, h⟩ := guardO h
 refine AQ_q 30 _ rfl rfl rfl (QOp_indexAddr_sl _ _ _ _ _ _ _ _ rfl Try.underlying24 Try.sizeOf2 hc7.1 (by rw [intsD_length]; exact hc7.2) rfl rfl) ?_
 refine AQ_q 31 _ rfl rfl rfl (QOp_load_pv _ _ _ _ _ rfl Try.isAgg2 rfl (intsD_get _ _ 0 (by omega))) ?_
 refine kQ 1 rfl ?_
 obtain ⟨hc8, h⟩ := guardO h
 refine AQ_q 33 _ rfl rfl rfl (QOp_indexAddr_sl _ _ _ _ _ _ _ _ rfl Try.underlying24 Try.sizeOf2 hc8.1 (by rw [intsD_length]; exact hc8.2) rfl rfl) ?_
 refine AQ_q 34 _ rfl rfl rfl (QOp_load_pv _ _ _ _ _ rfl Try.isAgg2 rfl (intsD_get _ _ 0 (by omega))) ?_
 refine AQ_q 35 _ rfl rfl rfl (QOp_sub _ _ _ _ _ _ _ rfl rfl rfl) ?_
 refine AQ_q 36 _ rfl rfl rfl (QOp_mul _ _ _ _ _ _ _ rfl rfl rfl) ?_
 refine AQ_q 37 _ rfl rfl rfl (QOp_sub _ _ _ _ _ _ _ rfl rfl rfl) ?_
 refine kQ 1 rfl ?_
 refine AQ_nil ?_
 refine ACode_ret ?_
 cases h
 exact ⟨_, _, fun r a w h => ⟨r, h⟩, _, _, [], _, (.cons (ResV_tmp _ _ rfl) .nil), rfl, rfl, rfl, rfl, rfl⟩

-- loop.example/g01362/impl.greatestBend
def impl_greatestBend_l2 (p0 : List (List Int)) (p1 : Int) (x3 : Int) (x7 : Int) : Nat → Int → M17 → Option (M17)
 | 0, _, _ => none
 | k2 + 1, x12, x13 => (if decide (x12 < x7) then ((if 0 ≤ x12 ∧ x12 < (p0.length : Int) then (if 0 ≤ x7 ∧ x7 < (p0.length : Int) then (if 0 ≤ x3 ∧ x3 < (p0.length : Int) then (impl_bends (p0.getD x12.toNat []) (p0.getD x7.toNat []) (p0.getD x3.toNat [])).bind fun r18 => (if decide (0 < w64 (p1 * r18)) then (if 0 ≤ x7 ∧ x7 < 17 then (if 0 ≤ x3 ∧ x3 < 17 then (if 0 ≤ x12 ∧ x12 < 17 then (if 0 ≤ x7 ∧ x7 < 17 then (if 0 ≤ x7 ∧ x7 < 17 then (if 0 ≤ x3 ∧ x3 < 17 then some (x13.set (x7.toNat * 17 + x3.toNat) (if (x13.get (x7.toNat * 17 + x3.toNat)) < w64 ((x13.get (x12.toNat * 17 + x7.toNat)) + 1) then w64 ((x13.get (x12.toNat * 17 + x7.toNat)) + 1) else (x13.get (x7.toNat * 17 + x3.toNat)))) else none) else none) else none) else none) else none) else none) else some x13) else none) else none) else none) : Option (M17)).bind fun s26 => impl_greatestBend_l2 p0 p1 x3 x7 k2 (w64 (x12 + 1)) s26 else some x13)
def impl_greatestBend_l1 (k : Nat) (p0 : List (List Int)) (p1 : Int) (x3 : Int) : Nat → Int → Int → M17 → Option (Int × M17)
 | 0, _, _, _ => none
 | k1 + 1, x6, x7, x8 => (if decide (x7 < x3) then ((if 0 ≤ x7 ∧ x7 < 17 then (if 0 ≤ x3 ∧ x3 < 17 then (impl_greatestBend_l2 p0 p1 x3 x7 k 0 (x8.set (x7.toNat * 17 + x3.toNat) 2) : Option (M17)).bind fun s27 => (if 0 ≤ x7 ∧ x7 < 17 then (if 0 ≤ x3 ∧ x3 < 17 then some ((if x6 < (s27.get (x7.toNat * 17 + x3.toNat)) then (s27.get (x7.toNat * 17 + x3.toNat)) else x6), s27) else none) else none) else none) else none) : Option (Int × M17)).bind fun s30 => impl_greatestBend_l1 k p0 p1 x3 k1 s30.1 (w64 (x7 + 1)) s30.2 else some (x6, x8))
def impl_greatestBend_l0 (k : Nat) (p0 : List (List Int)) (p1 : Int) : Nat → Int → Int → M17 → Option (Int)
 | 0, _, _, _ => none
 | k0 + 1, x2, x3, x4 => (if decide (x3 < (p0.length : Int)) then (impl_greatestBend_l1 k p0 p1 x3 k x2 0 x4 : Option (Int × M17)).bind fun s31 => impl_greatestBend_l0 k p0 p1 k0 s31.1 (w64 (x3 + 1)) s31.2 else some x2)
def impl_greatestBend (k : Nat) (p0 : List (List Int)) (p1 : Int) : Option (Int) :=
 (impl_greatestBend_l0 k p0 p1 k (if 2 < (impl_size_R p0) then 2 else (impl_size_R p0)) 0 M17.zero : Option (Int)).bind fun s32 => some s32
set_option maxRecDepth 100000 in
theorem impl_greatestBend_ac (k : Nat) (p0 : List (List Int)) (p1 : Int) (r : Int) (h : impl_greatestBend k p0 p1 = some r) : AC Try.prog 85 [.d (.sl none (rowsD p0)), iV p1] [] (fun res H' => res = [iV r] ∧ H' = []) := by
 refine AC_of_body true Try.func85 rfl Try.ntmps85 (rvs := [.tmp 4]) rfl rfl (fun G hG => ?_)
 have hm : G.H.length = 0 := by rw [hG]; rfl
 have hz : zeroG G.H = true := by rw [hG]; rfl
 unfold impl_greatestBend at h
 refine kR ?_
 refine kN 1 rfl ?_
 refine kR ?_
 refine kM 1 rfl ?_
 refine kC [] 11 (iV (impl_size_R p0)) [] rfl Try.call115 rfl rfl (impl_size_R_ac p0) rfl ?_
 refine AOps_q 12 _ rfl rfl rfl (QOp_min _ _ _ _ _ _ rfl rfl rfl rfl rfl) ?_
 refine kN 1 rfl ?_
 refine kR ?_
 refine AOps_alloc 6 _ _ (m17D M17.zero) (zero_of Try.typeInfo114 rfl) (by rfl) rfl rfl rfl rfl ?_
 refine AOps_nil ?_
 refine kB (fun s32 => [(5, iV s32)]) (fun s32 => []) h (fun s32 h => ?_) (fun s32 h => ?_)
 ·refine kR ?_
  refine kM 1 rfl ?_
  refine AOps_q 14 _ rfl rfl rfl (QOp_len_sl _ _ _ _ _ _ _ (rowsD_length _) rfl rfl rfl rfl Try.underlying41 rfl) ?_
  refine kN 1 rfl ?_
  refine ACode_block ?_
  refine ACode_loopW (fun k0 E H => ∃ (x2 : Int) (x3 : Int) (x4 : M17), E = [(0, .d (.sl none (rowsD p0))), (1, iV p1), (5, iV x2), (6, .ptr 0 0), (14, iV (p0.length : Int)), (15, iV x3)] ∧ H = [.box (m17D x4)] ∧ impl_greatestBend_l0 k p0 p1 k0 x2 x3 x4 = some s32) k _ _ (Weak_keep 0 hm [0, 1, 5, 6, 14, 15] [0] _ _ rfl rfl rfl) ⟨_, _, _, rfl, rfl, h⟩ ?_
  clear h
  rintro k0 E H ⟨x2, x3, x4, rfl, rfl, h⟩
  cases k0 with
  | zero => cases (show (none : Option (Int)) = some _ from h)
  | succ k0 =>
   rw [impl_greatestBend_l0] at h
   refine kR ?_
   refine AOps_q 16 _ rfl rfl rfl (QOp_lss _ _ _ _ _ _ _ rfl rfl rfl) ?_
   refine AOps_nil ?_
   refine ACode_seq ?_
   refine kI h rfl (fun h _ => ?_) (fun h _ => ?_)
   ·refine ACode_skip ?_
    refine kB (fun s31 => [(0, .d (.sl none (rowsD p0))), (1, iV p1), (5, iV s31.1), (6, .ptr 0 0), (14, iV (p0.length : Int)), (15, iV x3)]) (fun s31 => [.box (m17D s31.2)]) h (fun s31 h => ?_) (fun s31 h => ?_)
    ·refine ACode_block ?_
     refine kR ?_
     refine kN 2 rfl ?_
     refine kR ?_
     refine kN 2 rfl ?_
     refine ACode_block ?_
     refine ACode_loopW (fun k1 E H => ∃ (x6 : Int) (x7 : Int) (x8 : M17), E = [(0, .d (.sl none (rowsD p0))), (1, iV p1), (5, iV x6), (6, .ptr 0 0), (7, iV x3), (14, iV (p0.length : Int)), (15, iV x3), (18, iV x3), (19, iV x7)] ∧ H = [.box (m17D x8)] ∧ impl_greatestBend_l1 k p0 p1 x3 k1 x6 x7 x8 = some s31) k _ _ (Weak_keep 0 hm [0, 1, 5, 6, 7, 14, 15, 18, 19] [0] _ _ rfl rfl rfl) ⟨_, _, _, rfl, rfl, h⟩ ?_
     clear h
     rintro k1 E H ⟨x6, x7, x8, rfl, rfl, h⟩
     cases k1 with
     | zero => cases (show (none : Option (Int × M17)) = some _ from h)
     | succ k1 =>
      rw [impl_greatestBend_l1] at h
      refine kR ?_
      refine AOps_q 20 _ rfl rfl rfl (QOp_lss _ _ _ _ _ _ _ rfl rfl rfl) ?_
      refine AOps_nil ?_
      refine ACode_seq ?_
      refine kI h rfl (fun h _ => ?_) (fun h _ => ?_)
      ·refine ACode_skip ?_
       refine kB (fun s30 => [(0, .d (.sl none (rowsD p0))), (1, iV p1), (5, iV s30.1), (6, .ptr 0 0), (7, iV x3), (14, iV (p0.length : Int)), (15, iV x3), (18, iV x3), (19, iV x7)]) (fun s30 => [.box (m17D s30.2)]) h (fun s30 h => ?_) (fun s30 h => ?_)
       ·refine ACode_block ?_
        refine kR ?_
        refine kN 2 rfl ?_
        refine kR ?_
        refine kM 2 rfl ?_
        obtain ⟨hc10, h⟩ := guardO h
        refine AOps_q 24 _ rfl rfl rfl (QOp_indexAddrM_ptr _ _ _ _ _ _ _ _ _ _ _ rfl Try.underlying114 Try.sizeOf113 hc10.1 hc10.2 rfl rfl rfl rfl) ?_
        obtain ⟨hc11, h⟩ := guardO h
        refine AOps_q 25 _ rfl rfl rfl (QOp_indexAddrA_ptr _ _ _ _ _ _ _ _ _ _ rfl Try.underlying113 Try.sizeOf2 hc11.1 hc11.2 rfl rfl rfl rfl) ?_
        refine AOps_store1 _ _ _ _ _ _ (m17D (x8.set (x7.toNat * 17 + x3.toNat) 2)) _ rfl rfl rfl rfl rfl rfl rfl Try.sizeOf2 (by rw [m17D_length]; omega) (m17D_set0 x8 (x7.toNat * 17) x3.toNat 2) ?_
        refine AOps_nil ?_
        refine kB (fun s27 => [(0, .d (.sl none (rowsD p0))), (1, iV p1), (5, iV x6), (6, .ptr 0 0), (7, iV x3), (8, iV x7), (14, iV (p0.length : Int)), (15, iV x3), (18, iV x3), (19, iV x7)]) (fun s27 => [.box (m17D s27)]) h (fun s27 h => ?_) (fun s27 h => ?_)
        ·refine kR ?_
         refine kN 2 rfl ?_
         refine ACode_block ?_
         refine ACode_loopW (fun k2 E H => ∃ (x12 : Int) (x13 : M17), E = [(0, .d (.sl none (rowsD p0))), (1, iV p1), (5, iV x6), (6, .ptr 0 0), (7, iV x3), (8, iV x7), (14, iV (p0.length : Int)), (15, iV x3), (18, iV x3), (19, iV x7), (26, iV x7), (27, iV x12)] ∧ H = [.box (m17D x13)] ∧ impl_greatestBend_l2 p0 p1 x3 x7 k2 x12 x13 = some s27) k _ _ (Weak_keep 0 hm [0, 1, 5, 6, 7, 8, 14, 15, 18, 19, 26, 27] [0] _ _ rfl rfl rfl) ⟨_, _, rfl, rfl, h⟩ ?_
         clear h
         rintro k2 E H ⟨x12, x13, rfl, rfl, h⟩
         cases k2 with
         | zero => cases (show (none : Option (M17)) = some _ from h)
         | succ k2 =>
          rw [impl_greatestBend_l2] at h
          refine kR ?_
          refine AOps_q 28 _ rfl rfl rfl (QOp_lss _ _ _ _ _ _ _ rfl rfl rfl) ?_
          refine AOps_nil ?_
          refine ACode_seq ?_
          refine kI h rfl (fun h _ => ?_) (fun h _ => ?_)
          ·refine ACode_skip ?_
           refine kB (fun s26 => [(0, .d (.sl none (rowsD p0))), (1, iV p1), (5, iV x6), (6, .ptr 0 0), (7, iV x3), (8, iV x7), (14, iV (p0.length : Int)), (15, iV x3), (18, iV x3), (19, iV x7), (26, iV x7), (27, iV x12)]) (fun s26 => [.box (m17D s26)]) h (fun s26 h => ?_) (fun s26 h => ?_)
           ·refine ACode_block ?_
            refine kR ?_
            refine kN 2 rfl ?_
            refine ACode_seq (ACode_quiet mixed (by kernel_rfl) ?_)
            refine kQ 3 rfl ?_
            obtain ⟨hc15, h⟩ := guardO h
            refine AQ_q 33 _ rfl rfl rfl (QOp_indexAddr_sl _ _ _ _ _ _ _ _ rfl Try.underlying41 Try.sizeOf24 hc15.1 (by rw [rowsD_length]; exact hc15.2) rfl rfl) ?_
            refine AQ_q 34 _ rfl rfl rfl (QOp_load_pv _ _ _ _ _ rfl Try.isAgg24 rfl (rowsD_get _ _ [] (by omega))) ?_
            refine kQ 2 rfl ?_
            obtain ⟨hc16, h⟩ := guardO h
            refine AQ_q 37 _ rfl rfl rfl (QOp_indexAddr_sl _ _ _ _ _ _ _ _ rfl Try.underlying41 Try.sizeOf24 hc16.1 (by rw [rowsD_length]; exact hc16.2) rfl rfl) ?_
            refine AQ_q 38 _ rfl rfl rfl (QOp_load_pv _ _ _ _ _ rfl Try.isAgg24 rfl (rowsD_get _ _ [] (by omega))) ?_
            refine kQ 2 rfl ?_
            obtain ⟨hc17, h⟩ := guardO h
            refine AQ_q 41 _ rfl rfl rfl (QOp_indexAddr_sl _ _ _ _ _ _ _ _ rfl Try.underlying41 Try.sizeOf24 hc17.1 (by rw [rowsD_length]; exact hc17.2) rfl rfl) ?_
            refine AQ_q 42 _ rfl rfl rfl (QOp_load_pv _ _ _ _ _ rfl Try.isAgg24 rfl (rowsD_get _ _ [] (by omega))) ?_
            obtain ⟨r18, hr18, h⟩ := bindO h
            refine AQ_call 43 _ _ _ _ _ _ _ _ _ rfl rfl rfl rfl rfl rfl rfl Try.call116 rfl rfl rfl (impl_bends_ac (p0.getD x12.toNat []) (p0.getD x7.toNat []) (p0.getD x3.toNat []) _ hr18) ?_
            refine AQ_q 44 _ rfl rfl rfl (QOp_mul _ _ _ _ _ _ _ rfl rfl rfl) ?_
            refine AQ_q 45 _ rfl rfl rfl (QOp_gtr _ _ _ _ _ _ _ rfl rfl rfl) ?_
            refine AQ_nil ?_
            refine kI h rfl (fun h _ => ?_) (fun h _ => ?_)
            ·refine (ACode_last (l := [_, _, _, _, _, _, _, _, _, _, _, _, _, _, _, _]) mixed (by kernel_rfl) (by kernel_rfl) ?_)
             refine kQ 4 rfl ?_
             obtain ⟨hc20, h⟩ := guardO h
             refine AQ_q 50 _ rfl rfl rfl (QOp_indexAddrM_ptr _ _ _ _ _ _ _ _ _ _ _ rfl Try.underlying114 Try.sizeOf113 hc20.1 hc20.2 rfl rfl rfl rfl) ?_
             obtain ⟨hc21, h⟩ := guardO h
             refine AQ_q 51 _ rfl rfl rfl (QOp_indexAddrA_ptr _ _ _ _ _ _ _ _ _ _ rfl Try.underlying113 Try.sizeOf2 hc21.1 hc21.2 rfl rfl rfl rfl) ?_
             refine AQ_q 52 _ rfl rfl rfl (QOp_load_ptr _ _ _ _ _ _ rfl Try.isAgg2 rfl rfl (by rw [Nat.zero_add]; exact m17D_get _ _ (by omega))) ?_
             refine kQ 2 rfl ?_
             obtain ⟨hc22, h⟩ := guardO h
             refine AQ_q 55 _ rfl rfl rfl (QOp_indexAddrM_ptr _ _ _ _ _ _ _ _ _ _ _ rfl Try.underlying114 Try.sizeOf113 hc22.1 hc22.2 rfl rfl rfl rfl) ?_
             obtain ⟨hc23, h⟩ := guardO h
             refine AQ_q 56 _ rfl rfl rfl (QOp_indexAddrA_ptr _ _ _ _ _ _ _ _ _ _ rfl Try.underlying113 Try.sizeOf2 hc23.1 hc23.2 rfl rfl rfl rfl) ?_
             refine AQ_q 57 _ rfl rfl rfl (QOp_load_ptr _ _ _ _ _ _ rfl Try.isAgg2 rfl rfl (by rw [Nat.zero_add]; exact m17D_get _ _ (by omega))) ?_
             refine AQ_q 58 _ rfl rfl rfl (QOp_add _ _ _ _ _ _ _ rfl rfl rfl) ?_
             refine AQ_q 59 _ rfl rfl rfl (QOp_max _ _ _ _ _ _ rfl rfl rfl rfl rfl) ?_
             obtain ⟨hc24, h⟩ := guardO h
             refine AQ_q 60 _ rfl rfl rfl (QOp_indexAddrM_ptr _ _ _ _ _ _ _ _ _ _ _ rfl Try.underlying114 Try.sizeOf113 hc24.1 hc24.2 rfl rfl rfl rfl) ?_
             obtain ⟨hc25, h⟩ := guardO h
             refine AQ_q 61 _ rfl rfl rfl (QOp_indexAddrA_ptr _ _ _ _ _ _ _ _ _ _ rfl Try.underlying113 Try.sizeOf2 hc25.1 hc25.2 rfl rfl rfl rfl) ?_
             refine AQ_nil ?_
             refine AOps_store1 _ _ _ _ _ _ (m17D (x13.set (x7.toNat * 17 + x3.toNat) (if (x13.get (x7.toNat * 17 + x3.toNat)) < w64 ((x13.get (x12.toNat * 17 + x7.toNat)) + 1) then w64 ((x13.get (x12.toNat * 17 + x7.toNat)) + 1) else (x13.get (x7.toNat * 17 + x3.toNat))))) _ rfl rfl rfl rfl rfl rfl rfl Try.sizeOf2 (by rw [m17D_length]; omega) (m17D_set0 x13 (x7.toNat * 17) x3.toNat (if (x13.get (x7.toNat * 17 + x3.toNat)) < w64 ((x13.get (x12.toNat * 17 + x7.toNat)) + 1) then w64 ((x13.get (x12.toNat * 17 + x7.toNat)) + 1) else (x13.get (x7.toNat * 17 + x3.toNat)))) ?_
             refine AOps_nil ?_
             cases h
             exact Weak_keep 0 hm [0, 1, 5, 6, 7, 8, 14, 15, 18, 19, 26, 27] [0] _ _ rfl rfl rfl
            refine ACode_skip ?_
            cases h
            exact Weak_keep 0 hm [0, 1, 5, 6, 7, 8, 14, 15, 18, 19, 26, 27] [0] _ _ rfl rfl rfl
           refine (ACode_region ?_)
           refine AOps_q 62 _ rfl rfl rfl (QOp_add _ _ _ _ _ _ _ rfl rfl rfl) ?_
           refine kN 1 rfl ?_
           exact ⟨k2, _, _, Nat.lt_succ_self _, Weak_keep 0 hm [0, 1, 5, 6, 7, 8, 14, 15, 18, 19, 26, 27] [0] _ _ rfl rfl rfl, _, _, rfl, rfl, h⟩
          refine ACode_exit ?_
          cases h
          exact Weak_keep 0 hm [0, 1, 5, 6, 7, 8, 14, 15, 18, 19] [0] _ _ rfl rfl rfl
        refine (ACode_region ?_)
        refine kM 3 rfl ?_
        obtain ⟨hc28, h⟩ := guardO h
        refine AOps_q 66 _ rfl rfl rfl (QOp_indexAddrM_ptr _ _ _ _ _ _ _ _ _ _ _ rfl Try.underlying114 Try.sizeOf113 hc28.1 hc28.2 rfl rfl rfl rfl) ?_
        obtain ⟨hc29, h⟩ := guardO h
        refine AOps_q 67 _ rfl rfl rfl (QOp_indexAddrA_ptr _ _ _ _ _ _ _ _ _ _ rfl Try.underlying113 Try.sizeOf2 hc29.1 hc29.2 rfl rfl rfl rfl) ?_
        refine AOps_q 68 _ rfl rfl rfl (QOp_load_ptr _ _ _ _ _ _ rfl Try.isAgg2 rfl rfl (by rw [Nat.zero_add]; exact m17D_get _ _ (by omega))) ?_
        refine AOps_q 69 _ rfl rfl rfl (QOp_max _ _ _ _ _ _ rfl rfl rfl rfl rfl) ?_
        refine kN 1 rfl ?_
        cases h
        exact Weak_keep 0 hm [0, 1, 5, 6, 7, 14, 15, 18, 19] [0] _ _ rfl rfl rfl
       refine (ACode_region ?_)
       refine AOps_q 70 _ rfl rfl rfl (QOp_add _ _ _ _ _ _ _ rfl rfl rfl) ?_
       refine kN 1 rfl ?_
       exact ⟨k1, _, _, Nat.lt_succ_self _, Weak_keep 0 hm [0, 1, 5, 6, 7, 14, 15, 18, 19] [0] _ _ rfl rfl rfl, _, _, _, rfl, rfl, h⟩
      refine ACode_exit ?_
      cases h
      exact Weak_keep 0 hm [0, 1, 5, 6, 14, 15] [0] _ _ rfl rfl rfl
    refine (ACode_region ?_)
    refine AOps_q 71 _ rfl rfl rfl (QOp_add _ _ _ _ _ _ _ rfl rfl rfl) ?_
    refine kN 1 rfl ?_
    exact ⟨k0, _, _, Nat.lt_succ_self _, Weak_keep 0 hm [0, 1, 5, 6, 14, 15] [0] _ _ rfl rfl rfl, _, _, _, rfl, rfl, h⟩
   refine ACode_exit ?_
   cases h
   exact Weak_keep 0 hm [5] [] _ _ rfl rfl rfl
 refine kR ?_
 refine kN 2 rfl ?_
 refine ACode_ret ?_
 cases h
 exact ⟨_, _, fun r a w h => ⟨r, h⟩, _, _, [], _, (.cons (ResV_tmp _ _ rfl) .nil), rfl, rfl, rfl, rfl, rfl⟩

-- loop.example/g01362/impl.CupsAndCaps
def impl_CupsAndCaps (k : Nat) (p0 : List (List Int)) : Option (Int × Int × Int) :=
 (impl_isRow k p0).bind fun r1 => (if !r1 then some (0, 0, 2) else (impl_greatestBend k p0 1).bind fun r3 => (impl_greatestBend k p0 (-1)).bind fun r4 => some (r3, r4, 0))
set_option maxRecDepth 100000 in
theorem impl_CupsAndCaps_ac (k : Nat) (p0 : List (List Int)) (r : Int × Int × Int) (h : impl_CupsAndCaps k p0 = some r) : AC Try.prog 27 [.d (.sl none (rowsD p0))] [] (fun res H' => res = [iV r.1, iV r.2.1, iV r.2.2] ∧ H' = []) := by
 refine AC_of_body true Try.func27 rfl Try.ntmps27 (rvs := [.tmp 2, .tmp 3, .tmp 4]) rfl rfl (fun G hG => ?_)
 have hm : G.H.length = 0 := by rw [hG]; rfl
 have hz : zeroG G.H = true := by rw [hG]; rfl
 unfold impl_CupsAndCaps at h
 refine kR ?_
 refine kN 3 rfl ?_
 refine ACode_seq ?_
 refine kR ?_
 refine kM 1 rfl ?_
 obtain ⟨r1, hr1, h⟩ := bindO h
 refine kC [] 6 (bV r1) [] rfl Try.call84 rfl rfl (impl_isRow_ac k p0 _ hr1) rfl ?_
 refine AOps_q 7 _ rfl rfl rfl (QOp_not _ _ _ rfl rfl) ?_
 refine AOps_nil ?_
 refine kI h rfl (fun h _ => ?_) (fun h _ => ?_)
 ·refine kR ?_
  refine kN 3 rfl ?_
  refine ACode_ret ?_
  cases h
  exact ⟨_, _, fun r a w h => ⟨r, h⟩, _, _, [], _, (.cons (ResV_tmp _ _ rfl) (.cons (ResV_tmp _ _ rfl) (.cons (ResV_tmp _ _ rfl) .nil))), rfl, rfl, rfl, rfl, rfl⟩
 refine ACode_skip ?_
 refine kR ?_
 refine kM 1 rfl ?_
 obtain ⟨r3, hr3, h⟩ := bindO h
 refine kC [] 9 (iV r3) [] rfl Try.call85 rfl rfl (impl_greatestBend_ac k p0 1 _ hr3) rfl ?_
 refine kM 1 rfl ?_
 obtain ⟨r4, hr4, h⟩ := bindO h
 refine kC [] 11 (iV r4) [] rfl Try.call85 rfl rfl (impl_greatestBend_ac k p0 (-1) _ hr4) rfl ?_
 refine kN 3 rfl ?_
 refine ACode_ret ?_
 cases h
 exact ⟨_, _, fun r a w h => ⟨r, h⟩, _, _, [], _, (.cons (ResV_tmp _ _ rfl) (.cons (ResV_tmp _ _ rfl) (.cons (ResV_tmp _ _ rfl) .nil))), rfl, rfl, rfl, rfl, rfl⟩

end Go.Proofs.Ytfnbhfobgimnjaa
