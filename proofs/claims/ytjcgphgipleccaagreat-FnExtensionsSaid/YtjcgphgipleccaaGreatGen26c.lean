/- Plain functions of the program and that the program computes them: printed by the own tool gen.py. No conditions. -/
import Derived.Test.YtjcgphgipleccaaGreatGen26b
set_option linter.unusedVariables false
set_option linter.unusedSimpArgs false
namespace Go.Proofs.YtjcgphgipleccaaGreat
open Go Go.RowKit Ab

-- (*loop.example/g01362/impl.Colouring).extensions
def impl_Colouring_extensions_on_firstExtension_c1_l1 (p0 : Col) (p2 : List Int) (p2n : Nat) (x4 : Int) (x5 : List Int) : Nat → Int → (List Int) → Option (List Int)
 | 0, _, _ => none
 | k1 + 1, x8, x9 => (if decide (x8 < ((p2n : Nat) : Int)) then ((if 0 ≤ x8 ∧ x8 < ((p2n : Nat) : Int) ∧ 0 + p2n ≤ x5.length then ((if decide ((x5.getD (0 + x8.toNat) 0) = x4) then (impl_Colouring_joins p0 x8 (impl_size ((p2.drop 0).take p2n)) x4).bind fun r13 => some r13 else some false) : Option (Bool)).bind fun s14 => (if s14 then (if x9.length + ([x8]).length ≤ 1099511627776 then some (x9 ++ ([x8])) else none) else some x9) else none) : Option (List Int)).bind fun s17 => impl_Colouring_extensions_on_firstExtension_c1_l1 p0 p2 p2n x4 x5 k1 (w64 (x8 + 1)) s17 else some x9)
def impl_Colouring_extensions_on_firstExtension_c1_l0 (k : Nat) (self : Col → (List Int) → (List Int) → Nat → (List Int) → Option (Bool × List Int × List Int)) (p0 : Col) (p1 : List Int) (p2 : List Int) (p2n : Nat) : Nat → Int → (List Int) → (List Int) → Option (Sum (List Int × List Int) (Bool × List Int × List Int))
 | 0, _, _, _ => none
 | k0 + 1, x4, x5, x6 => (if decide (x4 < p0.k) then ((impl_Colouring_extensions_on_firstExtension_c1_l1 p0 p2 p2n x4 x5 k 0 ([] : List Int) : Option (List Int)).bind fun s18 => ((if 0 ≤ x4 ∧ x4 < (p1.length : Int) then (impl_Colouring_hasClique k p0 x4 (w64 ((p1.getD x4.toNat 0) - 2)) s18).bind fun r20 => (if !r20 then (if 0 + p2n + ([x4]).length ≤ x5.length ∧ 1 ≤ ([x4]).length then (self p0 p1 (splicedL x5 (0 + p2n) (([x4]).length) ([x4])) (p2n + ([x4]).length) x6).bind fun r23 => some (!r23.1, r23.2.1, r23.2.2) else none) else some (false, x5, x6)) else none) : Option (Bool × List Int × List Int)).bind fun s24 => (if s24.1 then (some (.inr (false, s24.2.1, s24.2.2))).bind fun rr => some (.inr rr) else some (.inl (s24.2.1, s24.2.2))) : Option (Sum (List Int × List Int) (Sum (List Int × List Int) (Bool × List Int × List Int)))).bind fun os26 => (match os26 with | .inl s26 => impl_Colouring_extensions_on_firstExtension_c1_l0 k self p0 p1 p2 p2n k0 (w64 (x4 + 1)) s26.1 s26.2 | .inr rr => some rr) else some (.inl (x5, x6)))
def impl_Colouring_extensions_on_firstExtension_c1_body (self : Col → (List Int) → (List Int) → Nat → (List Int) → Option (Bool × List Int × List Int)) (k : Nat) (p0 : Col) (p1 : List Int) (p2 : List Int) (p2n : Nat) (p3_0 : List Int) : Option (Bool × List Int × List Int) :=
 (if decide ((impl_size ((p2.drop 0).take p2n)) = p0.p) then (impl_Colouring_firstExtension_c1 p2 p2n p3_0).bind fun r3 => some (r3.1, r3.2.1, r3.2.2) else (impl_Colouring_extensions_on_firstExtension_c1_l0 k self p0 p1 p2 p2n k 0 p2 p3_0 : Option (Sum (List Int × List Int) (Bool × List Int × List Int))).bind fun os27 => (match os27 with | .inl s27 => some (true, s27.1, s27.2) | .inr rr => some rr))
def impl_Colouring_extensions_on_firstExtension_c1 : Nat → Col → (List Int) → (List Int) → Nat → (List Int) → Option (Bool × List Int × List Int)
 | 0, _, _, _, _, _ => none
 | k + 1, p0, p1, p2, p2n, p3_0 => impl_Colouring_extensions_on_firstExtension_c1_body (impl_Colouring_extensions_on_firstExtension_c1 k) k p0 p1 p2 p2n p3_0
set_option maxRecDepth 100000 in
theorem impl_Colouring_extensions_on_firstExtension_c1_ac (k : Nat) (p0 : Col) (p1 : List Int) (p2 : List Int) (p2n : Nat) (p3_0 : List Int) (r : Bool × List Int × List Int) (h : impl_Colouring_extensions_on_firstExtension_c1 k p0 p1 p2 p2n p3_0 = some r) : AC Tryz.prog 63 [.d (.pv (colD p0) 0), .d (.sl none (intsD p1)), .part 0 0 0 p2n, .clo 66 [.ptr 1 0]] [.vec 0 (intsD p2), .ref (.vec 2 0), .vec 0 (intsD p3_0)] (fun res H' => res = [bV r.1] ∧ H' = [.vec 0 (intsD r.2.1), .ref (.vec 2 1), .vec 1 (intsD r.2.2)]) := by
 induction k generalizing p0 p1 p2 p2n p3_0 r with
 | zero => simp [impl_Colouring_extensions_on_firstExtension_c1] at h
 | succ k ih =>
  rw [impl_Colouring_extensions_on_firstExtension_c1] at h
  obtain ⟨self, hself, hk⟩ : ∃ self : Col → (List Int) → (List Int) → Nat → (List Int) → Option (Bool × List Int × List Int), (∀ (p0 : Col) (p1 : List Int) (p2 : List Int) (p2n : Nat) (p3_0 : List Int) (r : Bool × List Int × List Int), self p0 p1 p2 p2n p3_0 = some r → AC Tryz.prog 63 [.d (.pv (colD p0) 0), .d (.sl none (intsD p1)), .part 0 0 0 p2n, .clo 66 [.ptr 1 0]] [.vec 0 (intsD p2), .ref (.vec 2 0), .vec 0 (intsD p3_0)] (fun res H' => res = [bV r.1] ∧ H' = [.vec 0 (intsD r.2.1), .ref (.vec 2 1), .vec 1 (intsD r.2.2)])) ∧ impl_Colouring_extensions_on_firstExtension_c1 k = self := ⟨impl_Colouring_extensions_on_firstExtension_c1 k, fun p0 p1 p2 p2n p3_0 r h => ih p0 p1 p2 p2n p3_0 r h, rfl⟩
  rw [hk] at h
  clear ih hk
  refine AC_of_body true Tryz.func63 rfl Tryz.ntmps63 (rvs := [.tmp 8]) rfl rfl (fun G hG => ?_)
  have hm : G.H.length = 3 := by rw [hG]; rfl
  have hz : zeroG G.H = true := by rw [hG]; rfl
  refine ACode_weak (Weak_bump 1 2 _ rfl rfl _ rfl) ?_
  unfold impl_Colouring_extensions_on_firstExtension_c1_body at h
  refine kR ?_
  refine kN 1 rfl ?_
  refine kR ?_
  refine kM 1 rfl ?_
  refine AOps_callL [] 15 _ _ _ _ _ _ _ _ _ _ rfl rfl rfl rfl rfl rfl rfl Tryz.call74 rfl (nodupB_sound _ rfl) rfl rfl rfl (by have q := impl_size_ac ((p2.drop 0).take p2n); simp only [intsD_dt] at q; exact q) ?_
  rintro _ _ ⟨rfl, rfl⟩
  refine ⟨(fun _ h => nomatch h), (allc (flat_s _) (fun _ h => nomatch h)), AOps_as 15 (v' := iV (impl_size ((p2.drop 0).take p2n))) (H' := [.vec 0 (intsD p2), .ref (.vec 2 1), .vec 1 (intsD p3_0)]) rfl rfl ?_⟩
  refine kN 1 rfl ?_
  refine ACode_seq ?_
  refine kR ?_
  refine kM 2 rfl ?_
  refine AOps_q 18 _ rfl rfl rfl (QOp_nilCheck_pv _ _ _ rfl rfl) ?_
  refine AOps_q 19 _ rfl rfl rfl (QOp_fieldAddr_pv _ _ _ _ _ 0 _ _ rfl Tryz.underlying26 rfl _ Tryz.sizeOf2 rfl rfl) ?_
  refine AOps_q 20 _ rfl rfl rfl (QOp_load_pv _ _ _ _ _ rfl Tryz.isAgg2 rfl rfl) ?_
  refine AOps_q 21 _ rfl rfl rfl (QOp_eql _ _ _ _ _ _ _ rfl rfl rfl) ?_
  refine AOps_nil ?_
  refine kI h rfl (fun h _ => ?_) (fun h _ => ?_)
  ·refine kR ?_
   refine kM 2 rfl ?_
   obtain ⟨r3, hr3, h⟩ := bindO h
   refine kC [0, 1, 2] 24 (bV r3.1) [.vec 0 (intsD r3.2.1), .ref (.vec 2 2), .vec 2 (intsD r3.2.2)] rfl Tryz.call66 rfl rfl (impl_Colouring_firstExtension_c1_ac p2 p2n p3_0 _ hr3) rfl ?_
   refine kN 1 rfl ?_
   refine ACode_ret ?_
   cases h
   exact ⟨_, _, Weak_reset 3 hm hz [8] _ _ rfl rfl, _, _, [], _, (.cons (ResV_tmp _ _ rfl) .nil), rfl, rfl, rfl, rfl, rfl⟩
  refine ACode_skip ?_
  refine kO (fun s27 => []) (fun s27 => [.vec 0 (intsD s27.1), .ref (.vec 2 1), .vec 1 (intsD s27.2)]) h (fun os27 h hks27 => ?_) (fun s27 h => ?_)
  ·refine kR ?_
   refine kM 1 rfl ?_
   refine AOps_q 26 _ rfl rfl rfl (QOp_nilCheck_pv _ _ _ rfl rfl) ?_
   refine AOps_q 27 _ rfl rfl rfl (QOp_fieldAddr_pv _ _ _ _ _ 1 _ _ rfl Tryz.underlying26 rfl _ Tryz.sizeOf2 rfl rfl) ?_
   refine AOps_q 28 _ rfl rfl rfl (QOp_load_pv _ _ _ _ _ rfl Tryz.isAgg2 rfl rfl) ?_
   refine kN 1 rfl ?_
   refine ACode_block ?_
   refine ACode_loopW (fun k0 E H => ∃ (x4 : Int) (x5 : List Int) (x6 : List Int), E = [(0, .d (.pv (colD p0) 0)), (1, .d (.sl none (intsD p1))), (2, .part 0 0 0 p2n), (3, .clo 66 [.ptr 1 0]), (9, iV (impl_size ((p2.drop 0).take p2n))), (28, iV p0.k), (29, iV x4)] ∧ H = [.vec 0 (intsD x5), .ref (.vec 2 1), .vec 1 (intsD x6)] ∧ impl_Colouring_extensions_on_firstExtension_c1_l0 k self p0 p1 p2 p2n k0 x4 x5 x6 = some os27) k _ _ (Weak_keep 3 hm [0, 1, 2, 3, 9, 28, 29] [] _ _ rfl rfl rfl) ⟨_, _, _, rfl, rfl, h⟩ ?_
   clear h
   rintro k0 E H ⟨x4, x5, x6, rfl, rfl, h⟩
   cases k0 with
   | zero => cases (show (none : Option (Sum (List Int × List Int) (Bool × List Int × List Int))) = some _ from h)
   | succ k0 =>
    rw [impl_Colouring_extensions_on_firstExtension_c1_l0] at h
    refine kR ?_
    refine AOps_q 30 _ rfl rfl rfl (QOp_lss _ _ _ _ _ _ _ rfl rfl rfl) ?_
    refine AOps_nil ?_
    refine ACode_seq ?_
    refine kI h rfl (fun h _ => ?_) (fun h _ => ?_)
    ·refine ACode_skip ?_
     refine kO (fun s26 => [(0, .d (.pv (colD p0) 0)), (1, .d (.sl none (intsD p1))), (2, .part 0 0 0 p2n), (3, .clo 66 [.ptr 1 0]), (9, iV (impl_size ((p2.drop 0).take p2n))), (28, iV p0.k), (29, iV x4)]) (fun s26 => [.vec 0 (intsD s26.1), .ref (.vec 2 1), .vec 1 (intsD s26.2)]) h (fun os26 h hks26 => ?_) (fun s26 h => ?_)
     ·refine ACode_block ?_
      refine kR ?_
      refine kN 2 rfl ?_
      refine kR ?_
      refine AOps_buildSlice 32 _ _ _ [] (intsD ([] : List Int)) _ rfl rfl rfl rfl rfl (by decide) Tryz.underlying27 Tryz.sizeOf2 (zero_of Tryz.typeInfo2 rfl) rfl rfl (intsD_one _) ?_
      refine kN 1 rfl ?_
      refine kB (fun s18 => [(0, .d (.pv (colD p0) 0)), (1, .d (.sl none (intsD p1))), (2, .part 0 0 0 p2n), (3, .clo 66 [.ptr 1 0]), (9, iV (impl_size ((p2.drop 0).take p2n))), (10, iV x4), (11, .vec 3 0), (28, iV p0.k), (29, iV x4)]) (fun s18 => [.vec 0 (intsD x5), .ref (.vec 2 1), .vec 1 (intsD x6), .vec 0 (intsD s18)]) h (fun s18 h => ?_) (fun s18 h => ?_)
      ·refine kR ?_
       refine kM 1 rfl ?_
       refine AOps_q 34 _ rfl rfl rfl (QOp_len_part _ _ _ _ _ _ _ _ _ _ rfl rfl rfl rfl Tryz.underlying27 rfl rfl rfl) ?_
       refine kN 1 rfl ?_
       refine ACode_block ?_
       refine ACode_loopW (fun k1 E H => ∃ (x8 : Int) (x9 : List Int), E = [(0, .d (.pv (colD p0) 0)), (1, .d (.sl none (intsD p1))), (2, .part 0 0 0 p2n), (3, .clo 66 [.ptr 1 0]), (9, iV (impl_size ((p2.drop 0).take p2n))), (10, iV x4), (11, .vec 3 0), (28, iV p0.k), (29, iV x4), (33, .part 0 0 0 p2n), (34, iV ((p2n : Nat) : Int)), (35, iV x8)] ∧ H = [.vec 0 (intsD x5), .ref (.vec 2 1), .vec 1 (intsD x6), .vec 0 (intsD x9)] ∧ impl_Colouring_extensions_on_firstExtension_c1_l1 p0 p2 p2n x4 x5 k1 x8 x9 = some s18) k _ _ (Weak_keep 3 hm [0, 1, 2, 3, 9, 10, 11, 28, 29, 33, 34, 35] [3] _ _ rfl rfl rfl) ⟨_, _, rfl, rfl, h⟩ ?_
       clear h
       rintro k1 E H ⟨x8, x9, rfl, rfl, h⟩
       cases k1 with
       | zero => cases (show (none : Option (List Int)) = some _ from h)
       | succ k1 =>
        rw [impl_Colouring_extensions_on_firstExtension_c1_l1] at h
        refine kR ?_
        refine AOps_q 36 _ rfl rfl rfl (QOp_lss _ _ _ _ _ _ _ rfl rfl rfl) ?_
        refine AOps_nil ?_
        refine ACode_seq ?_
        refine kI h rfl (fun h _ => ?_) (fun h _ => ?_)
        ·refine ACode_skip ?_
         refine kB (fun s17 => [(0, .d (.pv (colD p0) 0)), (1, .d (.sl none (intsD p1))), (2, .part 0 0 0 p2n), (3, .clo 66 [.ptr 1 0]), (9, iV (impl_size ((p2.drop 0).take p2n))), (10, iV x4), (11, .vec 3 0), (28, iV p0.k), (29, iV x4), (33, .part 0 0 0 p2n), (34, iV ((p2n : Nat) : Int)), (35, iV x8)]) (fun s17 => [.vec 0 (intsD x5), .ref (.vec 2 1), .vec 1 (intsD x6), .vec 0 (intsD s17)]) h (fun s17 h => ?_) (fun s17 h => ?_)
         ·refine ACode_block ?_
          refine kR ?_
          refine kM 1 rfl ?_
          obtain ⟨hc11, h⟩ := guardO h
          refine AOps_q 38 _ rfl rfl rfl (QOp_indexAddr_part _ _ _ _ _ _ _ _ _ _ _ _ rfl Tryz.underlying27 Tryz.sizeOf2 hc11.1 hc11.2.1 rfl rfl rfl rfl) ?_
          refine AOps_q 39 _ rfl rfl rfl (QOp_load_eptr _ _ _ _ _ _ _ rfl Tryz.isAgg2 rfl rfl (intsD_get _ _ 0 (by omega))) ?_
          refine kN 2 rfl ?_
          refine kB (fun s14 => [(0, .d (.pv (colD p0) 0)), (1, .d (.sl none (intsD p1))), (2, .part 0 0 0 p2n), (3, .clo 66 [.ptr 1 0]), (9, iV (impl_size ((p2.drop 0).take p2n))), (10, iV x4), (11, .vec 3 0), (12, iV x8), (28, iV p0.k), (29, iV x4), (33, .part 0 0 0 p2n), (34, iV ((p2n : Nat) : Int)), (35, iV x8), (49, bV s14)]) (fun s14 => [.vec 0 (intsD x5), .ref (.vec 2 1), .vec 1 (intsD x6), .vec 0 (intsD x9)]) h (fun s14 h => ?_) (fun s14 h => ?_)
          ·refine (ACode_region ?_)
           refine kM 2 rfl ?_
           refine AOps_q 42 _ rfl rfl rfl (QOp_eql _ _ _ _ _ _ _ rfl rfl rfl) ?_
           refine kM 1 rfl ?_
           refine AOps_case 43 _ rfl (fun hb12 => ?_) (fun hb12 => ?_)
           ·have h := iteT hb12 h
            refine kM 4 rfl ?_
            obtain ⟨r13, hr13, h⟩ := bindO h
            refine kC [] 48 (bV r13) [.vec 0 (intsD x5), .ref (.vec 2 1), .vec 1 (intsD x6), .vec 0 (intsD x9)] rfl Tryz.call94 rfl rfl (impl_Colouring_joins_ac p0 x8 (impl_size ((p2.drop 0).take p2n)) x4 _ hr13) rfl ?_
            refine kN 1 rfl ?_
            cases h
            exact Weak_keep 3 hm [0, 1, 2, 3, 9, 10, 11, 12, 28, 29, 33, 34, 35, 49] [3] _ _ rfl rfl rfl
           have h := iteF hb12 h
           refine AOps_skip 44 rfl rfl rfl ?_
           refine AOps_skip 45 rfl rfl rfl ?_
           refine AOps_skip 46 rfl rfl rfl ?_
           refine AOps_skip 47 rfl rfl rfl ?_
           refine AOps_skip 48 rfl rfl rfl ?_
           refine kN 1 rfl ?_
           cases h
           exact Weak_keep 3 hm [0, 1, 2, 3, 9, 10, 11, 12, 28, 29, 33, 34, 35, 49] [3] _ _ rfl rfl rfl
          refine kI h rfl (fun h _ => ?_) (fun h _ => ?_)
          ·refine (ACode_region ?_)
           refine kM 2 rfl ?_
           refine AOps_buildSlice 52 _ _ _ [_] (intsD ([x8])) _ rfl rfl rfl rfl rfl (by decide) Tryz.underlying27 Tryz.sizeOf2 (zero_of Tryz.typeInfo2 rfl) rfl rfl (intsD_one _) ?_
           obtain ⟨hc16, h⟩ := guardO h
           refine AOps_append 53 _ _ _ _ _ _ _ _ _ _ _ _ rfl rfl rfl rfl rfl rfl rfl Tryz.underlying27 Tryz.type2 rfl rfl rfl (by decide) rfl rfl rfl rfl (intsD_one _) (by rw [intsD_length, intsD_length]; exact hc16) ?_
           rw [intsD_app]
           refine kN 1 rfl ?_
           cases h
           exact Weak_trans (Weak_keep 3 hm [0, 1, 2, 3, 9, 10, 11, 28, 29, 33, 34, 35] [3] _ _ rfl rfl rfl) (Weak_reset 3 hm hz [0, 1, 2, 3, 9, 10, 11, 28, 29, 33, 34, 35] _ _ rfl rfl)
          refine ACode_skip ?_
          cases h
          exact Weak_keep 3 hm [0, 1, 2, 3, 9, 10, 11, 28, 29, 33, 34, 35] [3] _ _ rfl rfl rfl
         refine (ACode_region ?_)
         refine AOps_q 54 _ rfl rfl rfl (QOp_add _ _ _ _ _ _ _ rfl rfl rfl) ?_
         refine kN 1 rfl ?_
         exact ⟨k1, _, _, Nat.lt_succ_self _, Weak_keep 3 hm [0, 1, 2, 3, 9, 10, 11, 28, 29, 33, 34, 35] [3] _ _ rfl rfl rfl, _, _, rfl, rfl, h⟩
        refine ACode_exit ?_
        cases h
        exact Weak_keep 3 hm [0, 1, 2, 3, 9, 10, 11, 28, 29] [3] _ _ rfl rfl rfl
      refine kB (fun s24 => [(0, .d (.pv (colD p0) 0)), (1, .d (.sl none (intsD p1))), (2, .part 0 0 0 p2n), (3, .clo 66 [.ptr 1 0]), (9, iV (impl_size ((p2.drop 0).take p2n))), (28, iV p0.k), (29, iV x4), (75, bV s24.1)]) (fun s24 => [.vec 0 (intsD s24.2.1), .ref (.vec 2 1), .vec 1 (intsD s24.2.2)]) h (fun s24 h => ?_) (fun s24 h => ?_)
      ·refine (ACode_region ?_)
       refine kM 4 rfl ?_
       obtain ⟨hc19, h⟩ := guardO h
       refine AOps_q 59 _ rfl rfl rfl (QOp_indexAddr_sl _ _ _ _ _ _ _ _ rfl Tryz.underlying27 Tryz.sizeOf2 hc19.1 (by rw [intsD_length]; exact hc19.2) rfl rfl) ?_
       refine AOps_q 60 _ rfl rfl rfl (QOp_load_pv _ _ _ _ _ rfl Tryz.isAgg2 rfl (intsD_get _ _ 0 (by omega))) ?_
       refine AOps_q 61 _ rfl rfl rfl (QOp_sub _ _ _ _ _ _ _ rfl rfl rfl) ?_
       refine kM 1 rfl ?_
       obtain ⟨r20, hr20, h⟩ := bindO h
       refine AOps_callL [] 63 _ _ _ _ _ _ _ _ _ _ rfl rfl rfl rfl rfl rfl rfl Tryz.call95 rfl (nodupB_sound _ rfl) rfl rfl rfl (impl_Colouring_hasClique_ac k p0 x4 (w64 ((p1.getD x4.toNat 0) - 2)) s18 _ hr20) ?_
       rintro _ _ ⟨rfl, rfl⟩
       refine ⟨(fun _ h => nomatch h), (allc (flat_s _) (fun _ h => nomatch h)), AOps_as 63 (v' := bV r20) (H' := [.vec 0 (intsD x5), .ref (.vec 2 1), .vec 1 (intsD x6), .vec 0 (intsD s18)]) rfl rfl ?_⟩
       refine AOps_q 64 _ rfl rfl rfl (QOp_not _ _ _ rfl rfl) ?_
       refine kM 1 rfl ?_
       refine AOps_case 65 _ rfl (fun hb21 => ?_) (fun hb21 => ?_)
       ·have h := iteT hb21 h
        refine kM 4 rfl ?_
        refine AOps_buildSlice 70 _ _ _ [_] (intsD ([x4])) _ rfl rfl rfl rfl rfl (by decide) Tryz.underlying27 Tryz.sizeOf2 (zero_of Tryz.typeInfo2 rfl) rfl rfl (intsD_one _) ?_
        obtain ⟨hc22, h⟩ := guardO h
        refine AOps_append_part 71 _ _ _ _ _ 0 0 0 p2n (p2n + ([x4]).length) _ (intsD x5) (intsD ([x4])) _ rfl rfl rfl rfl rfl rfl rfl Tryz.underlying27 Tryz.type2 rfl rfl rfl rfl rfl (intsD_one _) (by rw [intsD_length]; exact hc22.2) (by rw [intsD_length, intsD_length]; exact hc22.1) (by rw [intsD_length]) ?_
        rw [intsD_length, intsD_spl]
        refine kM 1 rfl ?_
        obtain ⟨r23, hr23, h⟩ := bindO h
        refine kC [0, 1, 2] 73 (bV r23.1) [.vec 0 (intsD r23.2.1), .ref (.vec 2 2), .vec 2 (intsD r23.2.2), .vec 0 (intsD s18), .vec 0 (intsD ([x4]))] rfl Tryz.call63 rfl rfl (hself p0 p1 (splicedL x5 (0 + p2n) (([x4]).length) ([x4])) (p2n + ([x4]).length) x6 _ hr23) rfl ?_
        refine AOps_q 74 _ rfl rfl rfl (QOp_not _ _ _ rfl rfl) ?_
        refine kN 1 rfl ?_
        cases h
        exact Weak_trans (Weak_keep 3 hm [0, 1, 2, 3, 9, 28, 29, 75] [] _ _ rfl rfl rfl) (Weak_reset 3 hm hz [0, 1, 2, 3, 9, 28, 29, 75] _ _ rfl rfl)
       have h := iteF hb21 h
       refine AOps_skip 66 rfl rfl rfl ?_
       refine AOps_skip 67 rfl rfl rfl ?_
       refine AOps_skip 68 rfl rfl rfl ?_
       refine AOps_skip 69 rfl rfl rfl ?_
       refine AOps_skip 70 rfl rfl rfl ?_
       refine AOps_skip 71 rfl rfl rfl ?_
       refine AOps_skip 72 rfl rfl rfl ?_
       refine AOps_skip 73 rfl rfl rfl ?_
       refine AOps_skip 74 rfl rfl rfl ?_
       refine kN 1 rfl ?_
       cases h
       exact Weak_keep 3 hm [0, 1, 2, 3, 9, 28, 29, 75] [] _ _ rfl rfl rfl
      refine kI h rfl (fun h _ => ?_) (fun h _ => ?_)
      ·refine kR ?_
       refine kN 1 rfl ?_
       refine ACode_ret ?_
       obtain ⟨rr, hz28, h2⟩ := bindO h
       obtain rfl := Option.some.inj h2
       obtain rfl := Option.some.inj (show some rr = some _ from hks26)
       have h := hz28
       cases h
       have h := hks27
       cases h
       exact ⟨_, _, fun r a w h => ⟨r, h⟩, _, _, [], _, (.cons (ResV_tmp _ _ rfl) .nil), rfl, rfl, rfl, rfl, rfl⟩
      refine ACode_skip ?_
      cases h
      exact ⟨_, rfl, Weak_keep 3 hm [0, 1, 2, 3, 9, 28, 29] [] _ _ rfl rfl rfl⟩
     refine (ACode_region ?_)
     refine AOps_q 76 _ rfl rfl rfl (QOp_add _ _ _ _ _ _ _ rfl rfl rfl) ?_
     refine kN 1 rfl ?_
     exact ⟨k0, _, _, Nat.lt_succ_self _, Weak_keep 3 hm [0, 1, 2, 3, 9, 28, 29] [] _ _ rfl rfl rfl, _, _, _, rfl, rfl, h⟩
    refine ACode_exit ?_
    cases h
    exact ⟨_, rfl, Weak_keep 3 hm [] [] _ _ rfl rfl rfl⟩
  refine kR ?_
  refine kN 1 rfl ?_
  refine ACode_ret ?_
  cases h
  exact ⟨_, _, fun r a w h => ⟨r, h⟩, _, _, [], _, (.cons (ResV_tmp _ _ rfl) .nil), rfl, rfl, rfl, rfl, rfl⟩

-- (*loop.example/g01362/impl.Colouring).extend
def impl_Colouring_extend_on_firstExtension_c1 (k : Nat) (p0 : Col) (p1 : List Int) (p2_0 : List Int) : Option (Bool × List Int) :=
 (impl_Colouring_extensions_on_firstExtension_c1 k p0 p1 (List.replicate 17 (0 : Int)) 0 p2_0).bind fun r2 => some (r2.1, r2.2.2)
set_option maxRecDepth 100000 in
theorem impl_Colouring_extend_on_firstExtension_c1_ac (k : Nat) (p0 : Col) (p1 : List Int) (p2_0 : List Int) (r : Bool × List Int) (h : impl_Colouring_extend_on_firstExtension_c1 k p0 p1 p2_0 = some r) : AC Tryz.prog 30 [.d (.pv (colD p0) 0), .d (.sl none (intsD p1)), .clo 66 [.ptr 0 0]] [.ref (.vec 1 0), .vec 0 (intsD p2_0)] (fun res H' => res = [bV r.1] ∧ H' = [.ref (.vec 1 1), .vec 1 (intsD r.2)]) := by
 refine AC_of_body true Tryz.func30 rfl Tryz.ntmps30 (rvs := [.tmp 6]) rfl rfl (fun G hG => ?_)
 have hm : G.H.length = 2 := by rw [hG]; rfl
 have hz : zeroG G.H = true := by rw [hG]; rfl
 refine ACode_weak (Weak_bump 0 1 _ rfl rfl _ rfl) ?_
 unfold impl_Colouring_extend_on_firstExtension_c1 at h
 refine kR ?_
 refine kN 1 rfl ?_
 refine kR ?_
 refine kM 2 rfl ?_
 refine AOps_makeBufG intsD iD 0 (intsD_rep · _) 9 _ _ _ _ _ _ 17 _ (.int .i64 0) rfl rfl rfl rfl rfl rfl Tryz.underlying27 Tryz.type2 rfl rfl (by decide) rfl rfl (by decide) ?_
 refine kM 1 rfl ?_
 obtain ⟨r2, hr2, h⟩ := bindO h
 refine kC [2, 0, 1] 11 (bV r2.1) [.ref (.vec 1 2), .vec 2 (intsD r2.2.2), .vec 0 (intsD r2.2.1)] rfl Tryz.call63 rfl rfl (impl_Colouring_extensions_on_firstExtension_c1_ac k p0 p1 (List.replicate 17 (0 : Int)) 0 p2_0 _ hr2) rfl ?_
 refine kN 1 rfl ?_
 refine ACode_ret ?_
 cases h
 exact ⟨_, _, Weak_reset 2 hm hz [6] _ _ rfl rfl, _, _, [], _, (.cons (ResV_tmp _ _ rfl) .nil), rfl, rfl, rfl, rfl, rfl⟩

-- (*loop.example/g01362/impl.Colouring).firstExtension
def impl_Colouring_firstExtension (k : Nat) (p0 : Col) (p1 : List Int) : Option (List Int × Bool) :=
 (impl_Colouring_extend_on_firstExtension_c1 k p0 p1 ([] : List Int)).bind fun r1 => some (r1.2, !r1.1)
set_option maxRecDepth 100000 in
theorem impl_Colouring_firstExtension_ac (k : Nat) (p0 : Col) (p1 : List Int) (r : List Int × Bool) (h : impl_Colouring_firstExtension k p0 p1 = some r) : AC Tryz.prog 35 [.d (.pv (colD p0) 0), .d (.sl none (intsD p1))] [] (fun res H' => res = [.vec 0 0, bV r.2] ∧ H' = [.vec 0 (intsD r.1)]) := by
 refine AC_of_body true Tryz.func35 rfl Tryz.ntmps35 (rvs := [.tmp 4, .tmp 5]) rfl rfl (fun G hG => ?_)
 have hm : G.H.length = 0 := by rw [hG]; rfl
 have hz : zeroG G.H = true := by rw [hG]; rfl
 unfold impl_Colouring_firstExtension at h
 refine kR ?_
 refine kN 2 rfl ?_
 refine kR ?_
 refine AOps_buildSlice 8 _ _ _ [] (intsD ([] : List Int)) _ rfl rfl rfl rfl rfl (by decide) Tryz.underlying27 Tryz.sizeOf2 (zero_of Tryz.typeInfo2 rfl) rfl rfl (intsD_one _) ?_
 refine AOps_alloc 6 _ _ ([.sl (some true) []]) (zero_of Tryz.typeInfo27 rfl) (by rfl) rfl rfl rfl rfl ?_
 refine AOps_storeR 1 _ _ _ _ _ rfl rfl rfl rfl rfl rfl rfl rfl Tryz.sizeOf27 (fun r a w hr => vec_one hr rfl rfl rfl) ?_
 refine AOps_nil ?_
 refine kR ?_
 refine kM 2 rfl ?_
 refine AOps_q 11 _ rfl rfl rfl (QOp_makeFunc _ _ _ rfl rfl) ?_
 obtain ⟨r1, hr1, h⟩ := bindO h
 refine kC [1, 0] 12 (bV r1.1) [.vec 1 (intsD r1.2), .ref (.vec 0 1)] rfl Tryz.call30 rfl rfl (impl_Colouring_extend_on_firstExtension_c1_ac k p0 p1 ([] : List Int) _ hr1) rfl ?_
 refine kN 1 rfl ?_
 refine kR ?_
 refine AOps_q 13 _ rfl rfl rfl (QOp_load_ref _ _ _ _ rfl Tryz.isAgg27 rfl rfl) ?_
 refine kM 1 rfl ?_
 refine AOps_q 15 _ rfl rfl rfl (QOp_not _ _ _ rfl rfl) ?_
 refine kN 2 rfl ?_
 refine ACode_ret ?_
 cases h
 exact ⟨_, _, Weak_reset 0 hm hz [4, 5] _ _ rfl rfl, _, _, [0], _, (.cons (ResV_tmp _ _ rfl) (.cons (ResV_tmp _ _ rfl) .nil)), rfl, rfl, rfl, rfl, rfl⟩

-- loop.example/g01362/impl.FirstExtension
def impl_FirstExtension (k : Nat) (p0 : Col) (p1 : List Int) : Option (Option (List Int) × Int) :=
 (impl_Colouring_extendingCode k p0 p1 (some (impl_always)) 12).bind fun r1 => (if !decide (r1 = 0) then some (none, r1) else (impl_Colouring_firstExtension k p0 p1).bind fun r3 => (if !r3.2 then some (none, 4) else some (some r3.1, 0)))
set_option maxRecDepth 100000 in
theorem impl_FirstExtension_ac (k : Nat) (p0 : Col) (p1 : List Int) (r : Option (List Int) × Int) (h : impl_FirstExtension k p0 p1 = some r) : AC Tryz.prog 10 [.d (.agg (colD p0)), .d (.sl none (intsD p1))] [] (fun res H' => res = [ownA 0 (r.1.map intsD), iV r.2] ∧ H' = [] ++ ownH (r.1.map intsD)) := by
 refine AC_of_body false Tryz.func10 rfl Tryz.ntmps10 (rvs := [.tmp 4, .tmp 5]) rfl rfl (fun G hG => ?_)
 have hm : G.H.length = 0 := by rw [hG]; rfl
 have hz : zeroG G.H = true := by rw [hG]; rfl
 unfold impl_FirstExtension at h
 refine kR ?_
 refine AOps_boxI 2 _ _ (.agg (colD p0)) (colD p0) rfl (colD_one _) rfl rfl rfl rfl rfl ?_
 refine kN 2 rfl ?_
 refine ACode_seq ?_
 refine kR ?_
 refine kM 1 rfl ?_
 obtain ⟨r1, hr1, h⟩ := bindO h
 refine kC [] 10 (iV r1) [] rfl Tryz.call28 rfl rfl (impl_Colouring_extendingCode_ac k p0 p1 (some (impl_always)) 12 29 ([]) Tryz.call29 (fun r h => by cases h; exact impl_always_ac) _ hr1) rfl ?_
 refine kN 1 rfl ?_
 refine kR ?_
 refine kM 1 rfl ?_
 refine AOps_q 12 _ rfl rfl rfl (QOp_neq _ _ _ _ _ _ _ rfl rfl rfl) ?_
 refine AOps_nil ?_
 refine kI h rfl (fun h _ => ?_) (fun h _ => ?_)
 ·refine kR ?_
  refine kN 3 rfl ?_
  refine ACode_ret ?_
  cases h
  exact ⟨_, _, fun r a w h => ⟨r, h⟩, _, _, [], _, (.cons (ResV_tmp _ _ rfl) (.cons (ResV_tmp _ _ rfl) .nil)), rfl, rfl, rfl, rfl, rfl⟩
 refine ACode_skip ?_
 refine kR ?_
 refine kM 1 rfl ?_
 obtain ⟨r3, hr3, h⟩ := bindO h
 refine kC [] 16 (.tup [.vec 0 0, bV r3.2]) [.vec 0 (intsD r3.1)] rfl Tryz.call35 rfl rfl (impl_Colouring_firstExtension_ac k p0 p1 _ hr3) rfl ?_
 refine kN 5 rfl ?_
 refine ACode_seq ?_
 refine kR ?_
 refine kM 1 rfl ?_
 refine AOps_q 20 _ rfl rfl rfl (QOp_not _ _ _ rfl rfl) ?_
 refine AOps_nil ?_
 refine kI h rfl (fun h _ => ?_) (fun h _ => ?_)
 ·refine kR ?_
  refine kN 2 rfl ?_
  refine ACode_ret ?_
  cases h
  exact ⟨_, _, fun r a w h => ⟨r, h⟩, _, _, [], _, (.cons (ResV_tmp _ _ rfl) (.cons (ResV_tmp _ _ rfl) .nil)), rfl, rfl, rfl, rfl, rfl⟩
 refine ACode_skip ?_
 refine kR ?_
 refine kN 3 rfl ?_
 refine ACode_ret ?_
 cases h
 exact ⟨_, _, Weak_reset 0 hm hz [4, 5] _ _ rfl rfl, _, _, [0], _, (.cons (ResV_tmp _ _ rfl) (.cons (ResV_tmp _ _ rfl) .nil)), rfl, rfl, rfl, rfl, rfl⟩

-- loop.example/g01362/spec.FirstExtension
def spec_FirstExtension (k : Nat) (p0 : Col) (p1 : List Int) : Option (List Int × Int) :=
 (spec_l05Small k p0 p1).bind fun r1 => (if !decide (r1 = 0) then some ([], r1) else (spec_l05All k p0 p1 1).bind fun r3 => (if decide ((r3.length : Int) = 0) then some ([], 4) else (if 0 ≤ (0 : Int) ∧ (0 : Int) < (r3.length : Int) then some ((r3.getD (0 : Int).toNat []), 0) else none)))
set_option maxRecDepth 100000 in
theorem spec_FirstExtension_ac (k : Nat) (p0 : Col) (p1 : List Int) (r : List Int × Int) (h : spec_FirstExtension k p0 p1 = some r) : AC Tryz.prog 11 [.d (.agg (colD p0)), .d (.sl none (intsD p1))] [] (fun res H' => res = [.d (.sl none (intsD r.1)), iV r.2] ∧ H' = []) := by
 refine AC_of_body true Tryz.func11 rfl Tryz.ntmps11 (rvs := [.tmp 4, .tmp 5]) rfl rfl (fun G hG => ?_)
 have hm : G.H.length = 0 := by rw [hG]; rfl
 have hz : zeroG G.H = true := by rw [hG]; rfl
 unfold spec_FirstExtension at h
 refine kR ?_
 refine AOps_boxI 2 _ _ (.agg (colD p0)) (colD p0) rfl (colD_one _) rfl rfl rfl rfl rfl ?_
 refine kN 2 rfl ?_
 refine ACode_seq ?_
 refine kR ?_
 refine AOps_q 8 _ rfl rfl rfl (QOp_loadN_pv _ _ _ _ _ _ rfl Tryz.isAgg26 Tryz.sizeOf26 rfl (colD_all _) (colD_length _)) ?_
 refine kM 1 rfl ?_
 obtain ⟨r1, hr1, h⟩ := bindO h
 refine kC [] 10 (iV r1) [] rfl Tryz.call32 rfl rfl (spec_l05Small_ac k p0 p1 _ hr1) rfl ?_
 refine kN 1 rfl ?_
 refine kR ?_
 refine kM 1 rfl ?_
 refine AOps_q 12 _ rfl rfl rfl (QOp_neq _ _ _ _ _ _ _ rfl rfl rfl) ?_
 refine AOps_nil ?_
 refine kI h rfl (fun h _ => ?_) (fun h _ => ?_)
 ·refine kR ?_
  refine kN 3 rfl ?_
  refine ACode_ret ?_
  cases h
  exact ⟨_, _, fun r a w h => ⟨r, h⟩, _, _, [], _, (.cons (ResV_tmp _ _ rfl) (.cons (ResV_tmp _ _ rfl) .nil)), rfl, rfl, rfl, rfl, rfl⟩
 refine ACode_skip ?_
 refine kR ?_
 refine AOps_q 14 _ rfl rfl rfl (QOp_loadN_pv _ _ _ _ _ _ rfl Tryz.isAgg26 Tryz.sizeOf26 rfl (colD_all _) (colD_length _)) ?_
 refine kM 1 rfl ?_
 obtain ⟨r3, hr3, h⟩ := bindO h
 refine kC [] 16 (.d (.sl none (rowsD r3))) [] rfl Tryz.call36 rfl rfl (spec_l05All_ac k p0 p1 1 _ hr3) rfl ?_
 refine kN 1 rfl ?_
 refine ACode_seq ?_
 refine kR ?_
 refine kM 1 rfl ?_
 refine AOps_q 18 _ rfl rfl rfl (QOp_len_sl _ _ _ _ _ _ _ (rowsD_length _) rfl rfl rfl rfl Tryz.underlying34 rfl) ?_
 refine AOps_q 19 _ rfl rfl rfl (QOp_eql _ _ _ _ _ _ _ rfl rfl rfl) ?_
 refine AOps_nil ?_
 refine kI h rfl (fun h _ => ?_) (fun h _ => ?_)
 ·refine kR ?_
  refine kN 2 rfl ?_
  refine ACode_ret ?_
  cases h
  exact ⟨_, _, fun r a w h => ⟨r, h⟩, _, _, [], _, (.cons (ResV_tmp _ _ rfl) (.cons (ResV_tmp _ _ rfl) .nil)), rfl, rfl, rfl, rfl, rfl⟩
 refine ACode_skip ?_
 refine kR ?_
 refine kM 1 rfl ?_
 obtain ⟨hc5, h⟩ := guardO h
 refine AOps_q 21 _ rfl rfl rfl (QOp_indexAddr_sl _ _ _ _ _ _ _ _ rfl Tryz.underlying34 Tryz.sizeOf27 hc5.1 (by rw [rowsD_length]; exact hc5.2) rfl rfl) ?_
 refine AOps_q 22 _ rfl rfl rfl (QOp_load_pv _ _ _ _ _ rfl Tryz.isAgg27 rfl (rowsD_get _ _ [] (by omega))) ?_
 refine kN 2 rfl ?_
 refine ACode_ret ?_
 cases h
 exact ⟨_, _, fun r a w h => ⟨r, h⟩, _, _, [], _, (.cons (ResV_tmp _ _ rfl) (.cons (ResV_tmp _ _ rfl) .nil)), rfl, rfl, rfl, rfl, rfl⟩

-- loop.example/g01362/impl.ExtensionList$1
def impl_ExtensionList_c1 (p0 : List Int) (p0n : Nat) (p1 : List (List Int)) : Option (Bool × List Int × List (List Int)) :=
 (if ((p0.drop 0).take p0n).isEmpty then none else (cloneA ((p0.drop 0).take p0n)).bind fun r2 => (if p1.length + ([r2]).length ≤ 1099511627776 then some (decide (((p1 ++ ([r2])).length : Int) ≤ 200), p0, (p1 ++ ([r2]))) else none))
set_option maxRecDepth 100000 in
theorem impl_ExtensionList_c1_ac (p0 : List Int) (p0n : Nat) (p1 : List (List Int)) (r : Bool × List Int × List (List Int)) (h : impl_ExtensionList_c1 p0 p0n p1 = some r) : AC Tryz.prog 37 [.part 0 0 0 p0n, .ptr 1 0] [.vec 0 (intsD p0), .ref (.vec 2 0), .vec 0 (rowsD p1)] (fun res H' => res = [bV r.1] ∧ H' = [.vec 0 (intsD r.2.1), .ref (.vec 2 1), .vec 1 (rowsD r.2.2)]) := by
 refine AC_of_body true Tryz.func37 rfl Tryz.ntmps37 (rvs := [.tmp 3]) rfl rfl (fun G hG => ?_)
 have hm : G.H.length = 3 := by rw [hG]; rfl
 have hz : zeroG G.H = true := by rw [hG]; rfl
 refine ACode_weak (Weak_bump 1 2 _ rfl rfl _ rfl) ?_
 unfold impl_ExtensionList_c1 at h
 refine kR ?_
 refine kN 1 rfl ?_
 refine bsplit (((p0.drop 0).take p0n).isEmpty) (fun hb1 => ?_) (fun hb1 => ?_)
 ·have h := iteT hb1 h
  cases h
 have h := iteF hb1 h
 obtain ⟨r2, hr2, h⟩ := bindO h
 obtain ⟨hc3, h⟩ := guardO h
 refine ACode_seq (ACode_reg [(1, .ptr 1 0)] [.vec 0 (intsD p0), .ref (.vec 2 1), .vec 1 (rowsD (p1 ++ ([r2])))] ?_ ?_)
 ·refine ACode_anyU mixed ?_
  refine AU_cut 2 #[true, true, true, true, false, false] [(1, .ptr 1 0), (4, .vec 2 1), (7, .vec 3 0)] [.vec 0 (intsD p0), .ref (.vec 2 1), .vec 1 (rowsD p1), .vec 0 (rowsD ([r2]))] ?_ (fun hS0 => ?_)
  ·refine AU_one 4 (by kernel_rfl) rfl rfl ?_
   refine AOps_append 8 _ _ _ _ _ _ _ _ _ _ _ _ rfl rfl rfl rfl rfl rfl rfl Tryz.underlying34 Tryz.type27 rfl rfl rfl (by decide) rfl rfl rfl rfl (rowsD_one _) (by rw [rowsD_length, rowsD_length]; exact hc3) ?_
   rw [rowsD_app]
   refine AOps_nil ?_
   refine AU_one 5 (by kernel_rfl) rfl rfl ?_
   refine AOps_storeR 1 _ _ _ _ _ rfl rfl rfl rfl rfl rfl rfl rfl Tryz.sizeOf34 (fun r a w hr => vec_one hr rfl rfl rfl) ?_
   refine AOps_nil ?_
   refine AU_done (by kernel_rfl) ?_
   exact ⟨rfl, Weak_trans (Weak_keep 3 hm [1] [] _ _ rfl rfl rfl) (Weak_reset 3 hm hz [1] _ _ rfl rfl)⟩
  refine AU_cut 3 #[true, true, true, false, false, false] [(1, .ptr 1 0), (4, .vec 2 1), (6, .vec 3 0)] [.vec 0 (intsD p0), .ref (.vec 2 1), .vec 1 (rowsD p1), .vec 0 (intsD r2)] ?_ (fun hS1 => ?_)
  ·refine AU_one 3 (by kernel_rfl) rfl rfl ?_
   refine AOps_freeze 6 3 0 _ rfl rfl ?_
   refine AOps_buildSlice 7 _ _ _ [_] (rowsD ([r2])) _ rfl rfl rfl rfl rfl (by decide) Tryz.underlying34 Tryz.sizeOf27 (zero_of Tryz.typeInfo27 rfl) rfl rfl (rowsD_one _) ?_
   refine AOps_nil ?_
   exact AU_to (by kernel_rfl) hS0 (Weak_keep 3 hm [1, 4, 7] [4] _ _ rfl rfl rfl)
  refine AU_u 1 5 _ rfl (by kernel_rfl) rfl rfl rfl (UOp_move _ _ rfl rfl) ?_
  refine AU_all [0, 2] (by kernel_rfl) rfl (allc ?_ (allc ?_ (fun _ h => nomatch h)))
  ·refine US_of 0 rfl rfl ?_
   refine AOps_q 4 _ rfl rfl rfl (QOp_load_ref _ _ _ _ rfl Tryz.isAgg34 rfl rfl) ?_
   refine AOps_nil ?_
   refine AU_one 2 (by kernel_rfl) rfl rfl ?_
   refine AOps_callL [] 6 _ _ _ _ _ _ _ _ _ _ rfl rfl rfl rfl rfl rfl rfl Tryz.call38 rfl (nodupB_sound _ rfl) rfl rfl rfl (by have q := cloneA_ac ((p0.drop 0).take p0n) _ hb1 hr2; simp only [intsD_dt] at q; exact q) ?_
   rintro _ _ ⟨rfl, rfl⟩
   refine ⟨(allc (intsD_flat _) (fun _ h => nomatch h)), (allc (trivial) (fun _ h => nomatch h)), AOps_as 6 (v' := .vec 3 0) (H' := [.vec 0 (intsD p0), .ref (.vec 2 1), .vec 1 (rowsD p1), .vec 0 (intsD r2)]) rfl rfl ?_⟩
   refine AOps_nil ?_
   exact AU_to (by kernel_rfl) hS1 (Weak_keep 3 hm [1, 4, 6] [3] _ _ rfl rfl rfl)
  refine US_of 2 rfl rfl ?_
  refine AOps_callL [] 6 _ _ _ _ _ _ _ _ _ _ rfl rfl rfl rfl rfl rfl rfl Tryz.call38 rfl (nodupB_sound _ rfl) rfl rfl rfl (by have q := cloneA_ac ((p0.drop 0).take p0n) _ hb1 hr2; simp only [intsD_dt] at q; exact q) ?_
  rintro _ _ ⟨rfl, rfl⟩
  refine ⟨(allc (intsD_flat _) (fun _ h => nomatch h)), (allc (trivial) (fun _ h => nomatch h)), AOps_as 6 (v' := .vec 3 0) (H' := [.vec 0 (intsD p0), .ref (.vec 2 1), .vec 1 (rowsD p1), .vec 0 (intsD r2)]) rfl rfl ?_⟩
  refine AOps_nil ?_
  refine AU_all [0, 3] (by kernel_rfl) rfl (allc ?_ (allc ?_ (fun _ h => nomatch h)))
  ·refine US_of 0 rfl rfl ?_
   refine AOps_q 4 _ rfl rfl rfl (QOp_load_ref _ _ _ _ rfl Tryz.isAgg34 rfl rfl) ?_
   refine AOps_nil ?_
   exact AU_to (by kernel_rfl) hS1 (Weak_keep 3 hm [1, 4, 6] [3] _ _ rfl rfl rfl)
  refine US_of 3 rfl rfl ?_
  refine AOps_freeze 6 3 0 _ rfl rfl ?_
  refine AOps_buildSlice 7 _ _ _ [_] (rowsD ([r2])) _ rfl rfl rfl rfl rfl (by decide) Tryz.underlying34 Tryz.sizeOf27 (zero_of Tryz.typeInfo27 rfl) rfl rfl (rowsD_one _) ?_
  refine AOps_nil ?_
  refine AU_one 0 (by kernel_rfl) rfl rfl ?_
  refine AOps_q 4 _ rfl rfl rfl (QOp_load_ref _ _ _ _ rfl Tryz.isAgg34 rfl rfl) ?_
  refine AOps_nil ?_
  exact AU_to (by kernel_rfl) hS0 (Weak_keep 3 hm [1, 4, 7] [4] _ _ rfl rfl rfl)
 refine kR ?_
 refine AOps_q 9 _ rfl rfl rfl (QOp_load_ref _ _ _ _ rfl Tryz.isAgg34 rfl rfl) ?_
 refine AOps_q 10 _ rfl rfl rfl (QOp_len_vec _ _ _ _ _ _ _ _ (rowsD_length _) rfl rfl rfl rfl Tryz.underlying34 rfl rfl) ?_
 refine AOps_q 11 _ rfl rfl rfl (QOp_leq _ _ _ _ _ _ _ rfl rfl rfl) ?_
 refine kN 1 rfl ?_
 refine ACode_ret ?_
 cases h
 exact ⟨_, _, fun r a w h => ⟨r, h⟩, _, _, [], _, (.cons (ResV_tmp _ _ rfl) .nil), rfl, rfl, rfl, rfl, rfl⟩

-- (*loop.example/g01362/impl.Colouring).extensions
def impl_Colouring_extensions_on_ExtensionList_c1_l1 (p0 : Col) (p2 : List Int) (p2n : Nat) (x4 : Int) (x5 : List Int) : Nat → Int → (List Int) → Option (List Int)
 | 0, _, _ => none
 | k1 + 1, x8, x9 => (if decide (x8 < ((p2n : Nat) : Int)) then ((if 0 ≤ x8 ∧ x8 < ((p2n : Nat) : Int) ∧ 0 + p2n ≤ x5.length then ((if decide ((x5.getD (0 + x8.toNat) 0) = x4) then (impl_Colouring_joins p0 x8 (impl_size ((p2.drop 0).take p2n)) x4).bind fun r13 => some r13 else some false) : Option (Bool)).bind fun s14 => (if s14 then (if x9.length + ([x8]).length ≤ 1099511627776 then some (x9 ++ ([x8])) else none) else some x9) else none) : Option (List Int)).bind fun s17 => impl_Colouring_extensions_on_ExtensionList_c1_l1 p0 p2 p2n x4 x5 k1 (w64 (x8 + 1)) s17 else some x9)
def impl_Colouring_extensions_on_ExtensionList_c1_l0 (k : Nat) (self : Col → (List Int) → (List Int) → Nat → (List (List Int)) → Option (Bool × List Int × List (List Int))) (p0 : Col) (p1 : List Int) (p2 : List Int) (p2n : Nat) : Nat → Int → (List Int) → (List (List Int)) → Option (Sum (List Int × List (List Int)) (Bool × List Int × List (List Int)))
 | 0, _, _, _ => none
 | k0 + 1, x4, x5, x6 => (if decide (x4 < p0.k) then ((impl_Colouring_extensions_on_ExtensionList_c1_l1 p0 p2 p2n x4 x5 k 0 ([] : List Int) : Option (List Int)).bind fun s18 => ((if 0 ≤ x4 ∧ x4 < (p1.length : Int) then (impl_Colouring_hasClique k p0 x4 (w64 ((p1.getD x4.toNat 0) - 2)) s18).bind fun r20 => (if !r20 then (if 0 + p2n + ([x4]).length ≤ x5.length ∧ 1 ≤ ([x4]).length then (self p0 p1 (splicedL x5 (0 + p2n) (([x4]).length) ([x4])) (p2n + ([x4]).length) x6).bind fun r23 => some (!r23.1, r23.2.1, r23.2.2) else none) else some (false, x5, x6)) else none) : Option (Bool × List Int × List (List Int))).bind fun s24 => (if s24.1 then (some (.inr (false, s24.2.1, s24.2.2))).bind fun rr => some (.inr rr) else some (.inl (s24.2.1, s24.2.2))) : Option (Sum (List Int × List (List Int)) (Sum (List Int × List (List Int)) (Bool × List Int × List (List Int))))).bind fun os26 => (match os26 with | .inl s26 => impl_Colouring_extensions_on_ExtensionList_c1_l0 k self p0 p1 p2 p2n k0 (w64 (x4 + 1)) s26.1 s26.2 | .inr rr => some rr) else some (.inl (x5, x6)))
def impl_Colouring_extensions_on_ExtensionList_c1_body (self : Col → (List Int) → (List Int) → Nat → (List (List Int)) → Option (Bool × List Int × List (List Int))) (k : Nat) (p0 : Col) (p1 : List Int) (p2 : List Int) (p2n : Nat) (p3_0 : List (List Int)) : Option (Bool × List Int × List (List Int)) :=
 (if decide ((impl_size ((p2.drop 0).take p2n)) = p0.p) then (impl_ExtensionList_c1 p2 p2n p3_0).bind fun r3 => some (r3.1, r3.2.1, r3.2.2) else (impl_Colouring_extensions_on_ExtensionList_c1_l0 k self p0 p1 p2 p2n k 0 p2 p3_0 : Option (Sum (List Int × List (List Int)) (Bool × List Int × List (List Int)))).bind fun os27 => (match os27 with | .inl s27 => some (true, s27.1, s27.2) | .inr rr => some rr))
def impl_Colouring_extensions_on_ExtensionList_c1 : Nat → Col → (List Int) → (List Int) → Nat → (List (List Int)) → Option (Bool × List Int × List (List Int))
 | 0, _, _, _, _, _ => none
 | k + 1, p0, p1, p2, p2n, p3_0 => impl_Colouring_extensions_on_ExtensionList_c1_body (impl_Colouring_extensions_on_ExtensionList_c1 k) k p0 p1 p2 p2n p3_0
set_option maxRecDepth 100000 in
theorem impl_Colouring_extensions_on_ExtensionList_c1_ac (k : Nat) (p0 : Col) (p1 : List Int) (p2 : List Int) (p2n : Nat) (p3_0 : List (List Int)) (r : Bool × List Int × List (List Int)) (h : impl_Colouring_extensions_on_ExtensionList_c1 k p0 p1 p2 p2n p3_0 = some r) : AC Tryz.prog 63 [.d (.pv (colD p0) 0), .d (.sl none (intsD p1)), .part 0 0 0 p2n, .clo 37 [.ptr 1 0]] [.vec 0 (intsD p2), .ref (.vec 2 0), .vec 0 (rowsD p3_0)] (fun res H' => res = [bV r.1] ∧ H' = [.vec 0 (intsD r.2.1), .ref (.vec 2 1), .vec 1 (rowsD r.2.2)]) := by
 induction k generalizing p0 p1 p2 p2n p3_0 r with
 | zero => simp [impl_Colouring_extensions_on_ExtensionList_c1] at h
 | succ k ih =>
  rw [impl_Colouring_extensions_on_ExtensionList_c1] at h
  obtain ⟨self, hself, hk⟩ : ∃ self : Col → (List Int) → (List Int) → Nat → (List (List Int)) → Option (Bool × List Int × List (List Int)), (∀ (p0 : Col) (p1 : List Int) (p2 : List Int) (p2n : Nat) (p3_0 : List (List Int)) (r : Bool × List Int × List (List Int)), self p0 p1 p2 p2n p3_0 = some r → AC Tryz.prog 63 [.d (.pv (colD p0) 0), .d (.sl none (intsD p1)), .part 0 0 0 p2n, .clo 37 [.ptr 1 0]] [.vec 0 (intsD p2), .ref (.vec 2 0), .vec 0 (rowsD p3_0)] (fun res H' => res = [bV r.1] ∧ H' = [.vec 0 (intsD r.2.1), .ref (.vec 2 1), .vec 1 (rowsD r.2.2)])) ∧ impl_Colouring_extensions_on_ExtensionList_c1 k = self := ⟨impl_Colouring_extensions_on_ExtensionList_c1 k, fun p0 p1 p2 p2n p3_0 r h => ih p0 p1 p2 p2n p3_0 r h, rfl⟩
  rw [hk] at h
  clear ih hk
  refine AC_of_body true Tryz.func63 rfl Tryz.ntmps63 (rvs := [.tmp 8]) rfl rfl (fun G hG => ?_)
  have hm : G.H.length = 3 := by rw [hG]; rfl
  have hz : zeroG G.H = true := by rw [hG]; rfl
  refine ACode_weak (Weak_bump 1 2 _ rfl rfl _ rfl) ?_
  unfold impl_Colouring_extensions_on_ExtensionList_c1_body at h
  refine kR ?_
  refine kN 1 rfl ?_
  refine kR ?_
  refine kM 1 rfl ?_
  refine AOps_callL [] 15 _ _ _ _ _ _ _ _ _ _ rfl rfl rfl rfl rfl rfl rfl Tryz.call74 rfl (nodupB_sound _ rfl) rfl rfl rfl (by have q := impl_size_ac ((p2.drop 0).take p2n); simp only [intsD_dt] at q; exact q) ?_
  rintro _ _ ⟨rfl, rfl⟩
  refine ⟨(fun _ h => nomatch h), (allc (flat_s _) (fun _ h => nomatch h)), AOps_as 15 (v' := iV (impl_size ((p2.drop 0).take p2n))) (H' := [.vec 0 (intsD p2), .ref (.vec 2 1), .vec 1 (rowsD p3_0)]) rfl rfl ?_⟩
  refine kN 1 rfl ?_
  refine ACode_seq ?_
  refine kR ?_
  refine kM 2 rfl ?_
  refine AOps_q 18 _ rfl rfl rfl (QOp_nilCheck_pv _ _ _ rfl rfl) ?_
  refine AOps_q 19 _ rfl rfl rfl (QOp_fieldAddr_pv _ _ _ _ _ 0 _ _ rfl Tryz.underlying26 rfl _ Tryz.sizeOf2 rfl rfl) ?_
  refine AOps_q 20 _ rfl rfl rfl (QOp_load_pv _ _ _ _ _ rfl Tryz.isAgg2 rfl rfl) ?_
  refine AOps_q 21 _ rfl rfl rfl (QOp_eql _ _ _ _ _ _ _ rfl rfl rfl) ?_
  refine AOps_nil ?_
  refine kI h rfl (fun h _ => ?_) (fun h _ => ?_)
  ·refine kR ?_
   refine kM 2 rfl ?_
   obtain ⟨r3, hr3, h⟩ := bindO h
   refine kC [0, 1, 2] 24 (bV r3.1) [.vec 0 (intsD r3.2.1), .ref (.vec 2 2), .vec 2 (rowsD r3.2.2)] rfl Tryz.call37 rfl rfl (impl_ExtensionList_c1_ac p2 p2n p3_0 _ hr3) rfl ?_
   refine kN 1 rfl ?_
   refine ACode_ret ?_
   cases h
   exact ⟨_, _, Weak_reset 3 hm hz [8] _ _ rfl rfl, _, _, [], _, (.cons (ResV_tmp _ _ rfl) .nil), rfl, rfl, rfl, rfl, rfl⟩
  refine ACode_skip ?_
  refine kO (fun s27 => []) (fun s27 => [.vec 0 (intsD s27.1), .ref (.vec 2 1), .vec 1 (rowsD s27.2)]) h (fun os27 h hks27 => ?_) (fun s27 h => ?_)
  ·refine kR ?_
   refine kM 1 rfl ?_
   refine AOps_q 26 _ rfl rfl rfl (QOp_nilCheck_pv _ _ _ rfl rfl) ?_
   refine AOps_q 27 _ rfl rfl rfl (QOp_fieldAddr_pv _ _ _ _ _ 1 _ _ rfl Tryz.underlying26 rfl _ Tryz.sizeOf2 rfl rfl) ?_
   refine AOps_q 28 _ rfl rfl rfl (QOp_load_pv _ _ _ _ _ rfl Tryz.isAgg2 rfl rfl) ?_
   refine kN 1 rfl ?_
   refine ACode_block ?_
   refine ACode_loopW (fun k0 E H => ∃ (x4 : Int) (x5 : List Int) (x6 : List (List Int)), E = [(0, .d (.pv (colD p0) 0)), (1, .d (.sl none (intsD p1))), (2, .part 0 0 0 p2n), (3, .clo 37 [.ptr 1 0]), (9, iV (impl_size ((p2.drop 0).take p2n))), (28, iV p0.k), (29, iV x4)] ∧ H = [.vec 0 (intsD x5), .ref (.vec 2 1), .vec 1 (rowsD x6)] ∧ impl_Colouring_extensions_on_ExtensionList_c1_l0 k self p0 p1 p2 p2n k0 x4 x5 x6 = some os27) k _ _ (Weak_keep 3 hm [0, 1, 2, 3, 9, 28, 29] [] _ _ rfl rfl rfl) ⟨_, _, _, rfl, rfl, h⟩ ?_
   clear h
   rintro k0 E H ⟨x4, x5, x6, rfl, rfl, h⟩
   cases k0 with
   | zero => cases (show (none : Option (Sum (List Int × List (List Int)) (Bool × List Int × List (List Int)))) = some _ from h)
   | succ k0 =>
    rw [impl_Colouring_extensions_on_ExtensionList_c1_l0] at h
    refine kR ?_
    refine AOps_q 30 _ rfl rfl rfl (QOp_lss _ _ _ _ _ _ _ rfl rfl rfl) ?_
    refine AOps_nil ?_
    refine ACode_seq ?_
    refine kI h rfl (fun h _ => ?_) (fun h _ => ?_)
    ·refine ACode_skip ?_
     refine kO (fun s26 => [(0, .d (.pv (colD p0) 0)), (1, .d (.sl none (intsD p1))), (2, .part 0 0 0 p2n), (3, .clo 37 [.ptr 1 0]), (9, iV (impl_size ((p2.drop 0).take p2n))), (28, iV p0.k), (29, iV x4)]) (fun s26 => [.vec 0 (intsD s26.1), .ref (.vec 2 1), .vec 1 (rowsD s26.2)]) h (fun os26 h hks26 => ?_) (fun s26 h => ?_)
     ·refine ACode_block ?_
      refine kR ?_
      refine kN 2 rfl ?_
      refine kR ?_
      refine AOps_buildSlice 32 _ _ _ [] (intsD ([] : List Int)) _ rfl rfl rfl rfl rfl (by decide) Tryz.underlying27 Tryz.sizeOf2 (zero_of Tryz.typeInfo2 rfl) rfl rfl (intsD_one _) ?_
      refine kN 1 rfl ?_
      refine kB (fun s18 => [(0, .d (.pv (colD p0) 0)), (1, .d (.sl none (intsD p1))), (2, .part 0 0 0 p2n), (3, .clo 37 [.ptr 1 0]), (9, iV (impl_size ((p2.drop 0).take p2n))), (10, iV x4), (11, .vec 3 0), (28, iV p0.k), (29, iV x4)]) (fun s18 => [.vec 0 (intsD x5), .ref (.vec 2 1), .vec 1 (rowsD x6), .vec 0 (intsD s18)]) h (fun s18 h => ?_) (fun s18 h => ?_)
      ·refine kR ?_
       refine kM 1 rfl ?_
       refine AOps_q 34 _ rfl rfl rfl (QOp_len_part _ _ _ _ _ _ _ _ _ _ rfl rfl rfl rfl Tryz.underlying27 rfl rfl rfl) ?_
       refine kN 1 rfl ?_
       refine ACode_block ?_
       refine ACode_loopW (fun k1 E H => ∃ (x8 : Int) (x9 : List Int), E = [(0, .d (.pv (colD p0) 0)), (1, .d (.sl none (intsD p1))), (2, .part 0 0 0 p2n), (3, .clo 37 [.ptr 1 0]), (9, iV (impl_size ((p2.drop 0).take p2n))), (10, iV x4), (11, .vec 3 0), (28, iV p0.k), (29, iV x4), (33, .part 0 0 0 p2n), (34, iV ((p2n : Nat) : Int)), (35, iV x8)] ∧ H = [.vec 0 (intsD x5), .ref (.vec 2 1), .vec 1 (rowsD x6), .vec 0 (intsD x9)] ∧ impl_Colouring_extensions_on_ExtensionList_c1_l1 p0 p2 p2n x4 x5 k1 x8 x9 = some s18) k _ _ (Weak_keep 3 hm [0, 1, 2, 3, 9, 10, 11, 28, 29, 33, 34, 35] [3] _ _ rfl rfl rfl) ⟨_, _, rfl, rfl, h⟩ ?_
       clear h
       rintro k1 E H ⟨x8, x9, rfl, rfl, h⟩
       cases k1 with
       | zero => cases (show (none : Option (List Int)) = some _ from h)
       | succ k1 =>
        rw [impl_Colouring_extensions_on_ExtensionList_c1_l1] at h
        refine kR ?_
        refine AOps_q 36 _ rfl rfl rfl (QOp_lss _ _ _ _ _ _ _ rfl rfl rfl) ?_
        refine AOps_nil ?_
        refine ACode_seq ?_
        refine kI h rfl (fun h _ => ?_) (fun h _ => ?_)
        ·refine ACode_skip ?_
         refine kB (fun s17 => [(0, .d (.pv (colD p0) 0)), (1, .d (.sl none (intsD p1))), (2, .part 0 0 0 p2n), (3, .clo 37 [.ptr 1 0]), (9, iV (impl_size ((p2.drop 0).take p2n))), (10, iV x4), (11, .vec 3 0), (28, iV p0.k), (29, iV x4), (33, .part 0 0 0 p2n), (34, iV ((p2n : Nat) : Int)), (35, iV x8)]) (fun s17 => [.vec 0 (intsD x5), .ref (.vec 2 1), .vec 1 (rowsD x6), .vec 0 (intsD s17)]) h (fun s17 h => ?_) (fun s17 h => ?_)
         ·refine ACode_block ?_
          refine kR ?_
          refine kM 1 rfl ?_
          obtain ⟨hc11, h⟩ := guardO h
          refine AOps_q 38 _ rfl rfl rfl (QOp_indexAddr_part _ _ _ _ _ _ _ _ _ _ _ _ rfl Tryz.underlying27 Tryz.sizeOf2 hc11.1 hc11.2.1 rfl rfl rfl rfl) ?_
          refine AOps_q 39 _ rfl rfl rfl (QOp_load_eptr _ _ _ _ _ _ _ rfl Tryz.isAgg2 rfl rfl (intsD_get _ _ 0 (by omega))) ?_
          refine kN 2 rfl ?_
          refine kB (fun s14 => [(0, .d (.pv (colD p0) 0)), (1, .d (.sl none (intsD p1))), (2, .part 0 0 0 p2n), (3, .clo 37 [.ptr 1 0]), (9, iV (impl_size ((p2.drop 0).take p2n))), (10, iV x4), (11, .vec 3 0), (12, iV x8), (28, iV p0.k), (29, iV x4), (33, .part 0 0 0 p2n), (34, iV ((p2n : Nat) : Int)), (35, iV x8), (49, bV s14)]) (fun s14 => [.vec 0 (intsD x5), .ref (.vec 2 1), .vec 1 (rowsD x6), .vec 0 (intsD x9)]) h (fun s14 h => ?_) (fun s14 h => ?_)
          ·refine (ACode_region ?_)
           refine kM 2 rfl ?_
           refine AOps_q 42 _ rfl rfl rfl (QOp_eql _ _ _ _ _ _ _ rfl rfl rfl) ?_
           refine kM 1 rfl ?_
           refine AOps_case 43 _ rfl (fun hb12 => ?_) (fun hb12 => ?_)
           ·have h := iteT hb12 h
            refine kM 4 rfl ?_
            obtain ⟨r13, hr13, h⟩ := bindO h
            refine kC [] 48 (bV r13) [.vec 0 (intsD x5), .ref (.vec 2 1), .vec 1 (rowsD x6), .vec 0 (intsD x9)] rfl Tryz.call94 rfl rfl (impl_Colouring_joins_ac p0 x8 (impl_size ((p2.drop 0).take p2n)) x4 _ hr13) rfl ?_
            refine kN 1 rfl ?_
            cases h
            exact Weak_keep 3 hm [0, 1, 2, 3, 9, 10, 11, 12, 28, 29, 33, 34, 35, 49] [3] _ _ rfl rfl rfl
           have h := iteF hb12 h
           refine AOps_skip 44 rfl rfl rfl ?_
           refine AOps_skip 45 rfl rfl rfl ?_
           refine AOps_skip 46 rfl rfl rfl ?_
           refine AOps_skip 47 rfl rfl rfl ?_
           refine AOps_skip 48 rfl rfl rfl ?_
           refine kN 1 rfl ?_
           cases h
           exact Weak_keep 3 hm [0, 1, 2, 3, 9, 10, 11, 12, 28, 29, 33, 34, 35, 49] [3] _ _ rfl rfl rfl
          refine kI h rfl (fun h _ => ?_) (fun h _ => ?_)
          ·refine (ACode_region ?_)
           refine kM 2 rfl ?_
           refine AOps_buildSlice 52 _ _ _ [_] (intsD ([x8])) _ rfl rfl rfl rfl rfl (by decide) Tryz.underlying27 Tryz.sizeOf2 (zero_of Tryz.typeInfo2 rfl) rfl rfl (intsD_one _) ?_
           obtain ⟨hc16, h⟩ := guardO h
           refine AOps_append 53 _ _ _ _ _ _ _ _ _ _ _ _ rfl rfl rfl rfl rfl rfl rfl Tryz.underlying27 Tryz.type2 rfl rfl rfl (by decide) rfl rfl rfl rfl (intsD_one _) (by rw [intsD_length, intsD_length]; exact hc16) ?_
           rw [intsD_app]
           refine kN 1 rfl ?_
           cases h
           exact Weak_trans (Weak_keep 3 hm [0, 1, 2, 3, 9, 10, 11, 28, 29, 33, 34, 35] [3] _ _ rfl rfl rfl) (Weak_reset 3 hm hz [0, 1, 2, 3, 9, 10, 11, 28, 29, 33, 34, 35] _ _ rfl rfl)
          refine ACode_skip ?_
          cases h
          exact Weak_keep 3 hm [0, 1, 2, 3, 9, 10, 11, 28, 29, 33, 34, 35] [3] _ _ rfl rfl rfl
         refine (ACode_region ?_)
         refine AOps_q 54 _ rfl rfl rfl (QOp_add _ _ _ _ _ _ _ rfl rfl rfl) ?_
         refine kN 1 rfl ?_
         exact ⟨k1, _, _, Nat.lt_succ_self _, Weak_keep 3 hm [0, 1, 2, 3, 9, 10, 11, 28, 29, 33, 34, 35] [3] _ _ rfl rfl rfl, _, _, rfl, rfl, h⟩
        refine ACode_exit ?_
        cases h
        exact Weak_keep 3 hm [0, 1, 2, 3, 9, 10, 11, 28, 29] [3] _ _ rfl rfl rfl
      refine kB (fun s24 => [(0, .d (.pv (colD p0) 0)), (1, .d (.sl none (intsD p1))), (2, .part 0 0 0 p2n), (3, .clo 37 [.ptr 1 0]), (9, iV (impl_size ((p2.drop 0).take p2n))), (28, iV p0.k), (29, iV x4), (75, bV s24.1)]) (fun s24 => [.vec 0 (intsD s24.2.1), .ref (.vec 2 1), .vec 1 (rowsD s24.2.2)]) h (fun s24 h => ?_) (fun s24 h => ?_)
      ·refine (ACode_region ?_)
       refine kM 4 rfl ?_
       obtain ⟨hc19, h⟩ := guardO h
       refine AOps_q 59 _ rfl rfl rfl (QOp_indexAddr_sl _ _ _ _ _ _ _ _ rfl Tryz.underlying27 Tryz.sizeOf2 hc19.1 (by rw [intsD_length]; exact hc19.2) rfl rfl) ?_
       refine AOps_q 60 _ rfl rfl rfl (QOp_load_pv _ _ _ _ _ rfl Tryz.isAgg2 rfl (intsD_get _ _ 0 (by omega))) ?_
       refine AOps_q 61 _ rfl rfl rfl (QOp_sub _ _ _ _ _ _ _ rfl rfl rfl) ?_
       refine kM 1 rfl ?_
       obtain ⟨r20, hr20, h⟩ := bindO h
       refine AOps_callL [] 63 _ _ _ _ _ _ _ _ _ _ rfl rfl rfl rfl rfl rfl rfl Tryz.call95 rfl (nodupB_sound _ rfl) rfl rfl rfl (impl_Colouring_hasClique_ac k p0 x4 (w64 ((p1.getD x4.toNat 0) - 2)) s18 _ hr20) ?_
       rintro _ _ ⟨rfl, rfl⟩
       refine ⟨(fun _ h => nomatch h), (allc (flat_s _) (fun _ h => nomatch h)), AOps_as 63 (v' := bV r20) (H' := [.vec 0 (intsD x5), .ref (.vec 2 1), .vec 1 (rowsD x6), .vec 0 (intsD s18)]) rfl rfl ?_⟩
       refine AOps_q 64 _ rfl rfl rfl (QOp_not _ _ _ rfl rfl) ?_
       refine kM 1 rfl ?_
       refine AOps_case 65 _ rfl (fun hb21 => ?_) (fun hb21 => ?_)
       ·have h := iteT hb21 h
        refine kM 4 rfl ?_
        refine AOps_buildSlice 70 _ _ _ [_] (intsD ([x4])) _ rfl rfl rfl rfl rfl (by decide) Tryz.underlying27 Tryz.sizeOf2 (zero_of Tryz.typeInfo2 rfl) rfl rfl (intsD_one _) ?_
        obtain ⟨hc22, h⟩ := guardO h
        refine AOps_append_part 71 _ _ _ _ _ 0 0 0 p2n (p2n + ([x4]).length) _ (intsD x5) (intsD ([x4])) _ rfl rfl rfl rfl rfl rfl rfl Tryz.underlying27 Tryz.type2 rfl rfl rfl rfl rfl (intsD_one _) (by rw [intsD_length]; exact hc22.2) (by rw [intsD_length, intsD_length]; exact hc22.1) (by rw [intsD_length]) ?_
        rw [intsD_length, intsD_spl]
        refine kM 1 rfl ?_
        obtain ⟨r23, hr23, h⟩ := bindO h
        refine kC [0, 1, 2] 73 (bV r23.1) [.vec 0 (intsD r23.2.1), .ref (.vec 2 2), .vec 2 (rowsD r23.2.2), .vec 0 (intsD s18), .vec 0 (intsD ([x4]))] rfl Tryz.call63 rfl rfl (hself p0 p1 (splicedL x5 (0 + p2n) (([x4]).length) ([x4])) (p2n + ([x4]).length) x6 _ hr23) rfl ?_
        refine AOps_q 74 _ rfl rfl rfl (QOp_not _ _ _ rfl rfl) ?_
        refine kN 1 rfl ?_
        cases h
        exact Weak_trans (Weak_keep 3 hm [0, 1, 2, 3, 9, 28, 29, 75] [] _ _ rfl rfl rfl) (Weak_reset 3 hm hz [0, 1, 2, 3, 9, 28, 29, 75] _ _ rfl rfl)
       have h := iteF hb21 h
       refine AOps_skip 66 rfl rfl rfl ?_
       refine AOps_skip 67 rfl rfl rfl ?_
       refine AOps_skip 68 rfl rfl rfl ?_
       refine AOps_skip 69 rfl rfl rfl ?_
       refine AOps_skip 70 rfl rfl rfl ?_
       refine AOps_skip 71 rfl rfl rfl ?_
       refine AOps_skip 72 rfl rfl rfl ?_
       refine AOps_skip 73 rfl rfl rfl ?_
       refine AOps_skip 74 rfl rfl rfl ?_
       refine kN 1 rfl ?_
       cases h
       exact Weak_keep 3 hm [0, 1, 2, 3, 9, 28, 29, 75] [] _ _ rfl rfl rfl
      refine kI h rfl (fun h _ => ?_) (fun h _ => ?_)
      ·refine kR ?_
       refine kN 1 rfl ?_
       refine ACode_ret ?_
       obtain ⟨rr, hz28, h2⟩ := bindO h
       obtain rfl := Option.some.inj h2
       obtain rfl := Option.some.inj (show some rr = some _ from hks26)
       have h := hz28
       cases h
       have h := hks27
       cases h
       exact ⟨_, _, fun r a w h => ⟨r, h⟩, _, _, [], _, (.cons (ResV_tmp _ _ rfl) .nil), rfl, rfl, rfl, rfl, rfl⟩
      refine ACode_skip ?_
      cases h
      exact ⟨_, rfl, Weak_keep 3 hm [0, 1, 2, 3, 9, 28, 29] [] _ _ rfl rfl rfl⟩
     refine (ACode_region ?_)
     refine AOps_q 76 _ rfl rfl rfl (QOp_add _ _ _ _ _ _ _ rfl rfl rfl) ?_
     refine kN 1 rfl ?_
     exact ⟨k0, _, _, Nat.lt_succ_self _, Weak_keep 3 hm [0, 1, 2, 3, 9, 28, 29] [] _ _ rfl rfl rfl, _, _, _, rfl, rfl, h⟩
    refine ACode_exit ?_
    cases h
    exact ⟨_, rfl, Weak_keep 3 hm [] [] _ _ rfl rfl rfl⟩
  refine kR ?_
  refine kN 1 rfl ?_
  refine ACode_ret ?_
  cases h
  exact ⟨_, _, fun r a w h => ⟨r, h⟩, _, _, [], _, (.cons (ResV_tmp _ _ rfl) .nil), rfl, rfl, rfl, rfl, rfl⟩

-- (*loop.example/g01362/impl.Colouring).extend
def impl_Colouring_extend_on_ExtensionList_c1 (k : Nat) (p0 : Col) (p1 : List Int) (p2_0 : List (List Int)) : Option (Bool × List (List Int)) :=
 (impl_Colouring_extensions_on_ExtensionList_c1 k p0 p1 (List.replicate 17 (0 : Int)) 0 p2_0).bind fun r2 => some (r2.1, r2.2.2)
set_option maxRecDepth 100000 in
theorem impl_Colouring_extend_on_ExtensionList_c1_ac (k : Nat) (p0 : Col) (p1 : List Int) (p2_0 : List (List Int)) (r : Bool × List (List Int)) (h : impl_Colouring_extend_on_ExtensionList_c1 k p0 p1 p2_0 = some r) : AC Tryz.prog 30 [.d (.pv (colD p0) 0), .d (.sl none (intsD p1)), .clo 37 [.ptr 0 0]] [.ref (.vec 1 0), .vec 0 (rowsD p2_0)] (fun res H' => res = [bV r.1] ∧ H' = [.ref (.vec 1 1), .vec 1 (rowsD r.2)]) := by
 refine AC_of_body true Tryz.func30 rfl Tryz.ntmps30 (rvs := [.tmp 6]) rfl rfl (fun G hG => ?_)
 have hm : G.H.length = 2 := by rw [hG]; rfl
 have hz : zeroG G.H = true := by rw [hG]; rfl
 refine ACode_weak (Weak_bump 0 1 _ rfl rfl _ rfl) ?_
 unfold impl_Colouring_extend_on_ExtensionList_c1 at h
 refine kR ?_
 refine kN 1 rfl ?_
 refine kR ?_
 refine kM 2 rfl ?_
 refine AOps_makeBufG intsD iD 0 (intsD_rep · _) 9 _ _ _ _ _ _ 17 _ (.int .i64 0) rfl rfl rfl rfl rfl rfl Tryz.underlying27 Tryz.type2 rfl rfl (by decide) rfl rfl (by decide) ?_
 refine kM 1 rfl ?_
 obtain ⟨r2, hr2, h⟩ := bindO h
 refine kC [2, 0, 1] 11 (bV r2.1) [.ref (.vec 1 2), .vec 2 (rowsD r2.2.2), .vec 0 (intsD r2.2.1)] rfl Tryz.call63 rfl rfl (impl_Colouring_extensions_on_ExtensionList_c1_ac k p0 p1 (List.replicate 17 (0 : Int)) 0 p2_0 _ hr2) rfl ?_
 refine kN 1 rfl ?_
 refine ACode_ret ?_
 cases h
 exact ⟨_, _, Weak_reset 2 hm hz [6] _ _ rfl rfl, _, _, [], _, (.cons (ResV_tmp _ _ rfl) .nil), rfl, rfl, rfl, rfl, rfl⟩

-- loop.example/g01362/impl.ExtensionList
def impl_ExtensionList (k : Nat) (p0 : Col) (p1 : List Int) : Option (Option (List (List Int)) × Int) :=
 (impl_Colouring_extendingCode k p0 p1 (some (impl_always)) 12).bind fun r1 => (if !decide (r1 = 0) then some (none, r1) else (impl_Colouring_extend_on_ExtensionList_c1 k p0 p1 ([] : List (List Int))).bind fun r3 => (if !r3.1 then some (none, 3) else some (some r3.2, 0)))
set_option maxRecDepth 100000 in
theorem impl_ExtensionList_ac (k : Nat) (p0 : Col) (p1 : List Int) (r : Option (List (List Int)) × Int) (h : impl_ExtensionList k p0 p1 = some r) : AC Tryz.prog 12 [.d (.agg (colD p0)), .d (.sl none (intsD p1))] [] (fun res H' => res = [ownA 0 (r.1.map rowsD), iV r.2] ∧ H' = [] ++ ownH (r.1.map rowsD)) := by
 refine AC_of_body false Tryz.func12 rfl Tryz.ntmps12 (rvs := [.tmp 4, .tmp 5]) rfl rfl (fun G hG => ?_)
 have hm : G.H.length = 0 := by rw [hG]; rfl
 have hz : zeroG G.H = true := by rw [hG]; rfl
 unfold impl_ExtensionList at h
 refine kR ?_
 refine AOps_boxI 2 _ _ (.agg (colD p0)) (colD p0) rfl (colD_one _) rfl rfl rfl rfl rfl ?_
 refine kN 2 rfl ?_
 refine ACode_seq ?_
 refine kR ?_
 refine kM 1 rfl ?_
 obtain ⟨r1, hr1, h⟩ := bindO h
 refine kC [] 10 (iV r1) [] rfl Tryz.call28 rfl rfl (impl_Colouring_extendingCode_ac k p0 p1 (some (impl_always)) 12 29 ([]) Tryz.call29 (fun r h => by cases h; exact impl_always_ac) _ hr1) rfl ?_
 refine kN 1 rfl ?_
 refine kR ?_
 refine kM 1 rfl ?_
 refine AOps_q 12 _ rfl rfl rfl (QOp_neq _ _ _ _ _ _ _ rfl rfl rfl) ?_
 refine AOps_nil ?_
 refine kI h rfl (fun h _ => ?_) (fun h _ => ?_)
 ·refine kR ?_
  refine kN 3 rfl ?_
  refine ACode_ret ?_
  cases h
  exact ⟨_, _, fun r a w h => ⟨r, h⟩, _, _, [], _, (.cons (ResV_tmp _ _ rfl) (.cons (ResV_tmp _ _ rfl) .nil)), rfl, rfl, rfl, rfl, rfl⟩
 refine ACode_skip ?_
 refine kR ?_
 refine AOps_buildSlice 14 _ _ _ [] (rowsD ([] : List (List Int))) _ rfl rfl rfl rfl rfl (by decide) Tryz.underlying34 Tryz.sizeOf27 (zero_of Tryz.typeInfo27 rfl) rfl rfl (rowsD_one _) ?_
 refine AOps_alloc 7 _ _ ([.sl (some true) []]) (zero_of Tryz.typeInfo34 rfl) (by rfl) rfl rfl rfl rfl ?_
 refine AOps_storeR 1 _ _ _ _ _ rfl rfl rfl rfl rfl rfl rfl rfl Tryz.sizeOf34 (fun r a w hr => vec_one hr rfl rfl rfl) ?_
 refine AOps_nil ?_
 refine kR ?_
 refine kM 1 rfl ?_
 refine AOps_q 16 _ rfl rfl rfl (QOp_makeFunc _ _ _ rfl rfl) ?_
 obtain ⟨r3, hr3, h⟩ := bindO h
 refine kC [1, 0] 17 (bV r3.1) [.vec 1 (rowsD r3.2), .ref (.vec 0 1)] rfl Tryz.call30 rfl rfl (impl_Colouring_extend_on_ExtensionList_c1_ac k p0 p1 ([] : List (List Int)) _ hr3) rfl ?_
 refine kN 1 rfl ?_
 refine ACode_seq ?_
 refine kR ?_
 refine kM 1 rfl ?_
 refine AOps_q 19 _ rfl rfl rfl (QOp_not _ _ _ rfl rfl) ?_
 refine AOps_nil ?_
 refine kI h rfl (fun h _ => ?_) (fun h _ => ?_)
 ·refine kR ?_
  refine kN 2 rfl ?_
  refine ACode_ret ?_
  cases h
  exact ⟨_, _, Weak_reset 0 hm hz [4, 5] _ _ rfl rfl, _, _, [], _, (.cons (ResV_tmp _ _ rfl) (.cons (ResV_tmp _ _ rfl) .nil)), rfl, rfl, rfl, rfl, rfl⟩
 refine ACode_skip ?_
 refine kR ?_
 refine AOps_q 20 _ rfl rfl rfl (QOp_load_ref _ _ _ _ rfl Tryz.isAgg34 rfl rfl) ?_
 refine kN 2 rfl ?_
 refine ACode_ret ?_
 cases h
 exact ⟨_, _, Weak_reset 0 hm hz [4, 5] _ _ rfl rfl, _, _, [0], _, (.cons (ResV_tmp _ _ rfl) (.cons (ResV_tmp _ _ rfl) .nil)), rfl, rfl, rfl, rfl, rfl⟩

-- loop.example/g01362/spec.ExtensionList
def spec_ExtensionList (k : Nat) (p0 : Col) (p1 : List Int) : Option (List (List Int) × Int) :=
 (spec_l05Small k p0 p1).bind fun r1 => (if !decide (r1 = 0) then some ([], r1) else (spec_l05All k p0 p1 201).bind fun r3 => (if decide (200 < (r3.length : Int)) then some ([], 3) else some (r3, 0)))
set_option maxRecDepth 100000 in
theorem spec_ExtensionList_ac (k : Nat) (p0 : Col) (p1 : List Int) (r : List (List Int) × Int) (h : spec_ExtensionList k p0 p1 = some r) : AC Tryz.prog 13 [.d (.agg (colD p0)), .d (.sl none (intsD p1))] [] (fun res H' => res = [.d (.sl none (rowsD r.1)), iV r.2] ∧ H' = []) := by
 refine AC_of_body true Tryz.func13 rfl Tryz.ntmps13 (rvs := [.tmp 4, .tmp 5]) rfl rfl (fun G hG => ?_)
 have hm : G.H.length = 0 := by rw [hG]; rfl
 have hz : zeroG G.H = true := by rw [hG]; rfl
 unfold spec_ExtensionList at h
 refine kR ?_
 refine AOps_boxI 2 _ _ (.agg (colD p0)) (colD p0) rfl (colD_one _) rfl rfl rfl rfl rfl ?_
 refine kN 2 rfl ?_
 refine ACode_seq ?_
 refine kR ?_
 refine AOps_q 8 _ rfl rfl rfl (QOp_loadN_pv _ _ _ _ _ _ rfl Tryz.isAgg26 Tryz.sizeOf26 rfl (colD_all _) (colD_length _)) ?_
 refine kM 1 rfl ?_
 obtain ⟨r1, hr1, h⟩ := bindO h
 refine kC [] 10 (iV r1) [] rfl Tryz.call32 rfl rfl (spec_l05Small_ac k p0 p1 _ hr1) rfl ?_
 refine kN 1 rfl ?_
 refine kR ?_
 refine kM 1 rfl ?_
 refine AOps_q 12 _ rfl rfl rfl (QOp_neq _ _ _ _ _ _ _ rfl rfl rfl) ?_
 refine AOps_nil ?_
 refine kI h rfl (fun h _ => ?_) (fun h _ => ?_)
 ·refine kR ?_
  refine kN 3 rfl ?_
  refine ACode_ret ?_
  cases h
  exact ⟨_, _, fun r a w h => ⟨r, h⟩, _, _, [], _, (.cons (ResV_tmp _ _ rfl) (.cons (ResV_tmp _ _ rfl) .nil)), rfl, rfl, rfl, rfl, rfl⟩
 refine ACode_skip ?_
 refine kR ?_
 refine AOps_q 14 _ rfl rfl rfl (QOp_loadN_pv _ _ _ _ _ _ rfl Tryz.isAgg26 Tryz.sizeOf26 rfl (colD_all _) (colD_length _)) ?_
 refine kM 1 rfl ?_
 obtain ⟨r3, hr3, h⟩ := bindO h
 refine kC [] 16 (.d (.sl none (rowsD r3))) [] rfl Tryz.call36 rfl rfl (spec_l05All_ac k p0 p1 201 _ hr3) rfl ?_
 refine kN 1 rfl ?_
 refine ACode_seq ?_
 refine kR ?_
 refine kM 1 rfl ?_
 refine AOps_q 18 _ rfl rfl rfl (QOp_len_sl _ _ _ _ _ _ _ (rowsD_length _) rfl rfl rfl rfl Tryz.underlying34 rfl) ?_
 refine AOps_q 19 _ rfl rfl rfl (QOp_gtr _ _ _ _ _ _ _ rfl rfl rfl) ?_
 refine AOps_nil ?_
 refine kI h rfl (fun h _ => ?_) (fun h _ => ?_)
 ·refine kR ?_
  refine kN 2 rfl ?_
  refine ACode_ret ?_
  cases h
  exact ⟨_, _, fun r a w h => ⟨r, h⟩, _, _, [], _, (.cons (ResV_tmp _ _ rfl) (.cons (ResV_tmp _ _ rfl) .nil)), rfl, rfl, rfl, rfl, rfl⟩
 refine ACode_skip ?_
 refine kR ?_
 refine kN 3 rfl ?_
 refine ACode_ret ?_
 cases h
 exact ⟨_, _, fun r a w h => ⟨r, h⟩, _, _, [], _, (.cons (ResV_tmp _ _ rfl) (.cons (ResV_tmp _ _ rfl) .nil)), rfl, rfl, rfl, rfl, rfl⟩

-- loop.example/g01362/impl.IsClosed
def impl_IsClosed (k : Nat) (p0 : Col) (p1 : List Int) : Option (Bool × Int) :=
 (impl_Colouring_sizesCode k p0 p1 (some (impl_always))).bind fun r1 => letO (letO (if decide (r1 = 0) then decide (12 < p0.p) else false) fun (s3 : Bool) => (if s3 then 3 else r1)) fun (s5 : Int) => (((if !decide (s5 = 0) then some true else (impl_Colouring_avoids k p0 p1).bind fun r7 => some (!r7)) : Option (Bool)).bind fun s8 => (if s8 then some (.inr (false, s5)) else some (.inl ())) : Option (Sum (Unit) (Bool × Int))).bind fun os10 => (match os10 with | .inl s10 => (impl_Colouring_firstExtension k p0 p1).bind fun r11 => some (!r11.2, 0) | .inr rr => some rr)
set_option maxRecDepth 100000 in
theorem impl_IsClosed_ac (k : Nat) (p0 : Col) (p1 : List Int) (r : Bool × Int) (h : impl_IsClosed k p0 p1 = some r) : AC Tryz.prog 14 [.d (.agg (colD p0)), .d (.sl none (intsD p1))] [] (fun res H' => res = [bV r.1, iV r.2] ∧ H' = []) := by
 refine AC_of_body true Tryz.func14 rfl Tryz.ntmps14 (rvs := [.tmp 4, .tmp 5]) rfl rfl (fun G hG => ?_)
 have hm : G.H.length = 0 := by rw [hG]; rfl
 have hz : zeroG G.H = true := by rw [hG]; rfl
 unfold impl_IsClosed at h
 refine kR ?_
 refine AOps_boxI 2 _ _ (.agg (colD p0)) (colD p0) rfl (colD_one _) rfl rfl rfl rfl rfl ?_
 refine kN 2 rfl ?_
 refine kR ?_
 refine kM 1 rfl ?_
 obtain ⟨r1, hr1, h⟩ := bindO h
 refine kC [] 10 (iV r1) [] rfl Tryz.call39 rfl rfl (impl_Colouring_sizesCode_ac k p0 p1 (some (impl_always)) 29 ([]) Tryz.call29 (fun r h => by cases h; exact impl_always_ac) _ hr1) rfl ?_
 refine kN 1 rfl ?_
 refine kL (fun s5 => [(1, .d (.sl none (intsD p1))), (2, .d (.pv (colD p0) 0)), (6, iV s5)]) (fun s5 => []) h (fun s5 h => ?_) (fun s5 h => ?_)
 ·refine kL (fun s3 => [(1, .d (.sl none (intsD p1))), (2, .d (.pv (colD p0) 0)), (6, iV r1), (17, bV s3)]) (fun s3 => []) h (fun s3 h => ?_) (fun s3 h => ?_)
  ·refine (ACode_region ?_)
   refine kM 1 rfl ?_
   refine AOps_q 12 _ rfl rfl rfl (QOp_eql _ _ _ _ _ _ _ rfl rfl rfl) ?_
   refine kM 1 rfl ?_
   refine AOps_case 13 _ rfl (fun hb2 => ?_) (fun hb2 => ?_)
   ·have h := iteT hb2 h
    refine AOps_q 14 _ rfl rfl rfl (QOp_fieldAddr_pv _ _ _ _ _ 0 _ _ rfl Tryz.underlying26 rfl _ Tryz.sizeOf2 rfl rfl) ?_
    refine AOps_q 15 _ rfl rfl rfl (QOp_load_pv _ _ _ _ _ rfl Tryz.isAgg2 rfl rfl) ?_
    refine AOps_q 16 _ rfl rfl rfl (QOp_gtr _ _ _ _ _ _ _ rfl rfl rfl) ?_
    refine kN 1 rfl ?_
    cases h
    exact Weak_keep 0 hm [1, 2, 6, 17] [] _ _ rfl rfl rfl
   have h := iteF hb2 h
   refine AOps_skip 14 rfl rfl rfl ?_
   refine AOps_skip 15 rfl rfl rfl ?_
   refine AOps_skip 16 rfl rfl rfl ?_
   refine kN 1 rfl ?_
   cases h
   exact Weak_keep 0 hm [1, 2, 6, 17] [] _ _ rfl rfl rfl
  refine kI h rfl (fun h _ => ?_) (fun h _ => ?_)
  ·refine (ACode_region ?_)
   refine kN 1 rfl ?_
   cases h
   exact Weak_keep 0 hm [1, 2, 6] [] _ _ rfl rfl rfl
  refine ACode_skip ?_
  cases h
  exact Weak_keep 0 hm [1, 2, 6] [] _ _ rfl rfl rfl
 refine kO (fun s10 => [(1, .d (.sl none (intsD p1))), (2, .d (.pv (colD p0) 0))]) (fun s10 => []) h (fun os10 h hks10 => ?_) (fun s10 h => ?_)
 ·refine kB (fun s8 => [(1, .d (.sl none (intsD p1))), (2, .d (.pv (colD p0) 0)), (6, iV s5), (24, bV s8)]) (fun s8 => []) h (fun s8 h => ?_) (fun s8 h => ?_)
  ·refine (ACode_region ?_)
   refine kM 1 rfl ?_
   refine AOps_q 19 _ rfl rfl rfl (QOp_neq _ _ _ _ _ _ _ rfl rfl rfl) ?_
   refine kM 1 rfl ?_
   refine AOps_case 20 _ rfl (fun hb6 => ?_) (fun hb6 => ?_)
   ·have h := iteT hb6 h
    refine AOps_skip 21 rfl rfl rfl ?_
    refine AOps_skip 22 rfl rfl rfl ?_
    refine AOps_skip 23 rfl rfl rfl ?_
    refine kN 1 rfl ?_
    cases h
    exact Weak_keep 0 hm [1, 2, 6, 24] [] _ _ rfl rfl rfl
   have h := iteF hb6 h
   refine kM 1 rfl ?_
   obtain ⟨r7, hr7, h⟩ := bindO h
   refine kC [] 22 (bV r7) [] rfl Tryz.call40 rfl rfl (impl_Colouring_avoids_ac k p0 p1 _ hr7) rfl ?_
   refine AOps_q 23 _ rfl rfl rfl (QOp_not _ _ _ rfl rfl) ?_
   refine kN 1 rfl ?_
   cases h
   exact Weak_keep 0 hm [1, 2, 6, 24] [] _ _ rfl rfl rfl
  refine kI h rfl (fun h _ => ?_) (fun h _ => ?_)
  ·refine kR ?_
   refine kN 3 rfl ?_
   refine ACode_ret ?_
   cases h
   have h := hks10
   cases h
   exact ⟨_, _, fun r a w h => ⟨r, h⟩, _, _, [], _, (.cons (ResV_tmp _ _ rfl) (.cons (ResV_tmp _ _ rfl) .nil)), rfl, rfl, rfl, rfl, rfl⟩
  refine ACode_skip ?_
  cases h
  exact ⟨_, rfl, Weak_keep 0 hm [1, 2] [] _ _ rfl rfl rfl⟩
 refine kR ?_
 refine kM 1 rfl ?_
 obtain ⟨r11, hr11, h⟩ := bindO h
 refine kC [] 28 (.tup [.vec 0 0, bV r11.2]) [.vec 0 (intsD r11.1)] rfl Tryz.call35 rfl rfl (impl_Colouring_firstExtension_ac k p0 p1 _ hr11) rfl ?_
 refine kN 5 rfl ?_
 refine kR ?_
 refine kM 1 rfl ?_
 refine AOps_q 32 _ rfl rfl rfl (QOp_not _ _ _ rfl rfl) ?_
 refine kN 2 rfl ?_
 refine ACode_ret ?_
 cases h
 exact ⟨_, _, fun r a w h => ⟨r, h⟩, _, _, [], _, (.cons (ResV_tmp _ _ rfl) (.cons (ResV_tmp _ _ rfl) .nil)), rfl, rfl, rfl, rfl, rfl⟩

-- loop.example/g01362/spec.IsClosed
def spec_IsClosed (k : Nat) (p0 : Col) (p1 : List Int) : Option (Bool × Int) :=
 (spec_l05Code k p0 p1).bind fun r1 => letO (letO (if decide (r1 = 0) then decide (12 < p0.p) else false) fun (s3 : Bool) => (if s3 then 3 else r1)) fun (s5 : Int) => (if !decide (s5 = 0) then some (false, s5) else ((spec_l05Avoids k p0 p1).bind fun r7 => (if r7 then (spec_l05All k p0 p1 1).bind fun r9 => some (decide ((r9.length : Int) = 0)) else some false) : Option (Bool)).bind fun s10 => some (s10, 0))
set_option maxRecDepth 100000 in
theorem spec_IsClosed_ac (k : Nat) (p0 : Col) (p1 : List Int) (r : Bool × Int) (h : spec_IsClosed k p0 p1 = some r) : AC Tryz.prog 15 [.d (.agg (colD p0)), .d (.sl none (intsD p1))] [] (fun res H' => res = [bV r.1, iV r.2] ∧ H' = []) := by
 refine AC_of_body true Tryz.func15 rfl Tryz.ntmps15 (rvs := [.tmp 4, .tmp 5]) rfl rfl (fun G hG => ?_)
 have hm : G.H.length = 0 := by rw [hG]; rfl
 have hz : zeroG G.H = true := by rw [hG]; rfl
 unfold spec_IsClosed at h
 refine kR ?_
 refine AOps_boxI 2 _ _ (.agg (colD p0)) (colD p0) rfl (colD_one _) rfl rfl rfl rfl rfl ?_
 refine kN 2 rfl ?_
 refine kR ?_
 refine AOps_q 7 _ rfl rfl rfl (QOp_loadN_pv _ _ _ _ _ _ rfl Tryz.isAgg26 Tryz.sizeOf26 rfl (colD_all _) (colD_length _)) ?_
 refine kM 1 rfl ?_
 obtain ⟨r1, hr1, h⟩ := bindO h
 refine kC [] 9 (iV r1) [] rfl Tryz.call41 rfl rfl (spec_l05Code_ac k p0 p1 _ hr1) rfl ?_
 refine kN 1 rfl ?_
 refine kL (fun s5 => [(1, .d (.sl none (intsD p1))), (2, .d (.pv (colD p0) 0)), (6, iV s5)]) (fun s5 => []) h (fun s5 h => ?_) (fun s5 h => ?_)
 ·refine kL (fun s3 => [(1, .d (.sl none (intsD p1))), (2, .d (.pv (colD p0) 0)), (6, iV r1), (16, bV s3)]) (fun s3 => []) h (fun s3 h => ?_) (fun s3 h => ?_)
  ·refine (ACode_region ?_)
   refine kM 1 rfl ?_
   refine AOps_q 11 _ rfl rfl rfl (QOp_eql _ _ _ _ _ _ _ rfl rfl rfl) ?_
   refine kM 1 rfl ?_
   refine AOps_case 12 _ rfl (fun hb2 => ?_) (fun hb2 => ?_)
   ·have h := iteT hb2 h
    refine AOps_q 13 _ rfl rfl rfl (QOp_fieldAddr_pv _ _ _ _ _ 0 _ _ rfl Tryz.underlying26 rfl _ Tryz.sizeOf2 rfl rfl) ?_
    refine AOps_q 14 _ rfl rfl rfl (QOp_load_pv _ _ _ _ _ rfl Tryz.isAgg2 rfl rfl) ?_
    refine AOps_q 15 _ rfl rfl rfl (QOp_gtr _ _ _ _ _ _ _ rfl rfl rfl) ?_
    refine kN 1 rfl ?_
    cases h
    exact Weak_keep 0 hm [1, 2, 6, 16] [] _ _ rfl rfl rfl
   have h := iteF hb2 h
   refine AOps_skip 13 rfl rfl rfl ?_
   refine AOps_skip 14 rfl rfl rfl ?_
   refine AOps_skip 15 rfl rfl rfl ?_
   refine kN 1 rfl ?_
   cases h
   exact Weak_keep 0 hm [1, 2, 6, 16] [] _ _ rfl rfl rfl
  refine kI h rfl (fun h _ => ?_) (fun h _ => ?_)
  ·refine (ACode_region ?_)
   refine kN 1 rfl ?_
   cases h
   exact Weak_keep 0 hm [1, 2, 6] [] _ _ rfl rfl rfl
  refine ACode_skip ?_
  cases h
  exact Weak_keep 0 hm [1, 2, 6] [] _ _ rfl rfl rfl
 refine ACode_seq ?_
 refine kR ?_
 refine kM 1 rfl ?_
 refine AOps_q 18 _ rfl rfl rfl (QOp_neq _ _ _ _ _ _ _ rfl rfl rfl) ?_
 refine AOps_nil ?_
 refine kI h rfl (fun h _ => ?_) (fun h _ => ?_)
 ·refine kR ?_
  refine kN 3 rfl ?_
  refine ACode_ret ?_
  cases h
  exact ⟨_, _, fun r a w h => ⟨r, h⟩, _, _, [], _, (.cons (ResV_tmp _ _ rfl) (.cons (ResV_tmp _ _ rfl) .nil)), rfl, rfl, rfl, rfl, rfl⟩
 refine ACode_skip ?_
 refine kB (fun s10 => [(4, bV s10), (5, iV 0)]) (fun s10 => []) h (fun s10 h => ?_) (fun s10 h => ?_)
 ·refine (ACode_region ?_)
  refine AOps_q 20 _ rfl rfl rfl (QOp_loadN_pv _ _ _ _ _ _ rfl Tryz.isAgg26 Tryz.sizeOf26 rfl (colD_all _) (colD_length _)) ?_
  refine kM 1 rfl ?_
  obtain ⟨r7, hr7, h⟩ := bindO h
  refine kC [] 22 (bV r7) [] rfl Tryz.call42 rfl rfl (spec_l05Avoids_ac k p0 p1 _ hr7) rfl ?_
  refine kM 1 rfl ?_
  refine AOps_case 23 _ rfl (fun hb8 => ?_) (fun hb8 => ?_)
  ·have h := iteT hb8 h
   refine AOps_q 24 _ rfl rfl rfl (QOp_loadN_pv _ _ _ _ _ _ rfl Tryz.isAgg26 Tryz.sizeOf26 rfl (colD_all _) (colD_length _)) ?_
   refine kM 1 rfl ?_
   obtain ⟨r9, hr9, h⟩ := bindO h
   refine kC [] 26 (.d (.sl none (rowsD r9))) [] rfl Tryz.call36 rfl rfl (spec_l05All_ac k p0 p1 1 _ hr9) rfl ?_
   refine AOps_q 27 _ rfl rfl rfl (QOp_len_sl _ _ _ _ _ _ _ (rowsD_length _) rfl rfl rfl rfl Tryz.underlying34 rfl) ?_
   refine AOps_q 28 _ rfl rfl rfl (QOp_eql _ _ _ _ _ _ _ rfl rfl rfl) ?_
   refine kN 3 rfl ?_
   cases h
   exact Weak_keep 0 hm [4, 5] [] _ _ rfl rfl rfl
  have h := iteF hb8 h
  refine AOps_skip 24 rfl rfl rfl ?_
  refine AOps_skip 25 rfl rfl rfl ?_
  refine AOps_skip 26 rfl rfl rfl ?_
  refine AOps_skip 27 rfl rfl rfl ?_
  refine AOps_skip 28 rfl rfl rfl ?_
  refine kN 3 rfl ?_
  cases h
  exact Weak_keep 0 hm [4, 5] [] _ _ rfl rfl rfl
 refine ACode_ret ?_
 cases h
 exact ⟨_, _, fun r a w h => ⟨r, h⟩, _, _, [], _, (.cons (ResV_tmp _ _ rfl) (.cons (ResV_tmp _ _ rfl) .nil)), rfl, rfl, rfl, rfl, rfl⟩

-- loop.example/g01362/laws.likeInts
def laws_likeInts_l0 (p0 : List Int) (p1 : List Int) : Nat → Int → Option (Sum (Unit) (Bool))
 | 0, _ => none
 | k0 + 1, x2 => (if decide (x2 < (p0.length : Int)) then (if 0 ≤ x2 ∧ x2 < (p0.length : Int) then (if 0 ≤ x2 ∧ x2 < (p1.length : Int) then (if !decide ((p0.getD x2.toNat 0) = (p1.getD x2.toNat 0)) then some (.inr false) else laws_likeInts_l0 p0 p1 k0 (w64 (x2 + 1))) else none) else none) else some (.inl ()))
def laws_likeInts (k : Nat) (p0 : List Int) (p1 : List Int) : Option (Bool) :=
 (if !decide ((p0.length : Int) = (p1.length : Int)) then some false else (laws_likeInts_l0 p0 p1 k 0 : Option (Sum (Unit) (Bool))).bind fun os7 => (match os7 with | .inl s7 => some true | .inr rr => some rr))
set_option maxRecDepth 100000 in
theorem laws_likeInts_ac (k : Nat) (p0 : List Int) (p1 : List Int) (r : Bool) (h : laws_likeInts k p0 p1 = some r) : AC Tryz.prog 16 [.d (.sl none (intsD p0)), .d (.sl none (intsD p1))] [] (fun res H' => res = [bV r] ∧ H' = []) := by
 refine AC_of_body true Tryz.func16 rfl Tryz.ntmps16 (rvs := [.tmp 4]) rfl rfl (fun G hG => ?_)
 have hm : G.H.length = 0 := by rw [hG]; rfl
 have hz : zeroG G.H = true := by rw [hG]; rfl
 unfold laws_likeInts at h
 refine kR ?_
 refine kN 1 rfl ?_
 refine ACode_seq ?_
 refine kR ?_
 refine kM 1 rfl ?_
 refine AOps_q 7 _ rfl rfl rfl (QOp_len_sl _ _ _ _ _ _ _ (intsD_length _) rfl rfl rfl rfl Tryz.underlying27 rfl) ?_
 refine kM 1 rfl ?_
 refine AOps_q 9 _ rfl rfl rfl (QOp_len_sl _ _ _ _ _ _ _ (intsD_length _) rfl rfl rfl rfl Tryz.underlying27 rfl) ?_
 refine AOps_q 10 _ rfl rfl rfl (QOp_neq _ _ _ _ _ _ _ rfl rfl rfl) ?_
 refine AOps_nil ?_
 refine kI h rfl (fun h _ => ?_) (fun h _ => ?_)
 ·refine kR ?_
  refine kN 1 rfl ?_
  refine ACode_ret ?_
  cases h
  exact ⟨_, _, fun r a w h => ⟨r, h⟩, _, _, [], _, (.cons (ResV_tmp _ _ rfl) .nil), rfl, rfl, rfl, rfl, rfl⟩
 refine ACode_skip ?_
 refine kO (fun s7 => []) (fun s7 => []) h (fun os7 h hks7 => ?_) (fun s7 h => ?_)
 ·refine kR ?_
  refine kN 1 rfl ?_
  refine ACode_block ?_
  refine ACode_loopW (fun k0 E H => ∃ (x2 : Int), E = [(0, .d (.sl none (intsD p0))), (1, .d (.sl none (intsD p1))), (5, iV x2)] ∧ H = [] ∧ laws_likeInts_l0 p0 p1 k0 x2 = some os7) k _ _ (Weak_keep 0 hm [0, 1, 5] [] _ _ rfl rfl rfl) ⟨_, rfl, rfl, h⟩ ?_
  clear h
  rintro k0 E H ⟨x2, rfl, rfl, h⟩
  cases k0 with
  | zero => cases (show (none : Option (Sum (Unit) (Bool))) = some _ from h)
  | succ k0 =>
   rw [laws_likeInts_l0] at h
   refine ACode_seq ?_
   refine kR ?_
   refine kM 2 rfl ?_
   refine AOps_q 13 _ rfl rfl rfl (QOp_len_sl _ _ _ _ _ _ _ (intsD_length _) rfl rfl rfl rfl Tryz.underlying27 rfl) ?_
   refine AOps_q 14 _ rfl rfl rfl (QOp_lss _ _ _ _ _ _ _ rfl rfl rfl) ?_
   refine AOps_nil ?_
   refine kI h rfl (fun h _ => ?_) (fun h _ => ?_)
   ·refine ACode_skip ?_
    refine ACode_seq ?_
    refine ACode_block ?_
    refine ACode_seq (ACode_quiet mixed (by kernel_rfl) ?_)
    refine kQ 2 rfl ?_
    obtain ⟨hc4, h⟩ := guardO h
    refine AQ_q 19 _ rfl rfl rfl (QOp_indexAddr_sl _ _ _ _ _ _ _ _ rfl Tryz.underlying27 Tryz.sizeOf2 hc4.1 (by rw [intsD_length]; exact hc4.2) rfl rfl) ?_
    refine AQ_q 20 _ rfl rfl rfl (QOp_load_pv _ _ _ _ _ rfl Tryz.isAgg2 rfl (intsD_get _ _ 0 (by omega))) ?_
    refine kQ 2 rfl ?_
    obtain ⟨hc5, h⟩ := guardO h
    refine AQ_q 23 _ rfl rfl rfl (QOp_indexAddr_sl _ _ _ _ _ _ _ _ rfl Tryz.underlying27 Tryz.sizeOf2 hc5.1 (by rw [intsD_length]; exact hc5.2) rfl rfl) ?_
    refine AQ_q 24 _ rfl rfl rfl (QOp_load_pv _ _ _ _ _ rfl Tryz.isAgg2 rfl (intsD_get _ _ 0 (by omega))) ?_
    refine AQ_q 25 _ rfl rfl rfl (QOp_neq _ _ _ _ _ _ _ rfl rfl rfl) ?_
    refine AQ_nil ?_
    refine kI h rfl (fun h _ => ?_) (fun h _ => ?_)
    ·refine kR ?_
     refine kN 1 rfl ?_
     refine ACode_ret ?_
     cases h
     have h := hks7
     cases h
     exact ⟨_, _, fun r a w h => ⟨r, h⟩, _, _, [], _, (.cons (ResV_tmp _ _ rfl) .nil), rfl, rfl, rfl, rfl, rfl⟩
    refine ACode_skip ?_
    refine (ACode_region ?_)
    refine kM 1 rfl ?_
    refine AOps_q 16 _ rfl rfl rfl (QOp_add _ _ _ _ _ _ _ rfl rfl rfl) ?_
    refine kN 1 rfl ?_
    exact ⟨k0, _, _, Nat.lt_succ_self _, Weak_keep 0 hm [0, 1, 5] [] _ _ rfl rfl rfl, _, rfl, rfl, h⟩
   refine ACode_exit ?_
   cases h
   exact ⟨_, rfl, Weak_keep 0 hm [] [] _ _ rfl rfl rfl⟩
 refine kR ?_
 refine kN 1 rfl ?_
 refine ACode_ret ?_
 cases h
 exact ⟨_, _, fun r a w h => ⟨r, h⟩, _, _, [], _, (.cons (ResV_tmp _ _ rfl) .nil), rfl, rfl, rfl, rfl, rfl⟩

-- loop.example/g01362/laws.rows5
def laws_rows5_l0 (k : Nat) (p0 : List (List Int)) (p1 : List (List Int)) : Nat → Int → Option (Sum (Unit) (Bool))
 | 0, _ => none
 | k0 + 1, x2 => (if decide (x2 < (p0.length : Int)) then (if 0 ≤ x2 ∧ x2 < (p0.length : Int) then (if 0 ≤ x2 ∧ x2 < (p1.length : Int) then (laws_likeInts k (p0.getD x2.toNat []) (p1.getD x2.toNat [])).bind fun r6 => (if !r6 then some (.inr false) else laws_rows5_l0 k p0 p1 k0 (w64 (x2 + 1))) else none) else none) else some (.inl ()))
def laws_rows5 (k : Nat) (p0 : List (List Int)) (p1 : List (List Int)) : Option (Bool) :=
 (if !decide ((p0.length : Int) = (p1.length : Int)) then some false else (laws_rows5_l0 k p0 p1 k 0 : Option (Sum (Unit) (Bool))).bind fun os8 => (match os8 with | .inl s8 => some true | .inr rr => some rr))
set_option maxRecDepth 100000 in
theorem laws_rows5_ac (k : Nat) (p0 : List (List Int)) (p1 : List (List Int)) (r : Bool) (h : laws_rows5 k p0 p1 = some r) : AC Tryz.prog 17 [.d (.sl none (rowsD p0)), .d (.sl none (rowsD p1))] [] (fun res H' => res = [bV r] ∧ H' = []) := by
 refine AC_of_body true Tryz.func17 rfl Tryz.ntmps17 (rvs := [.tmp 4]) rfl rfl (fun G hG => ?_)
 have hm : G.H.length = 0 := by rw [hG]; rfl
 have hz : zeroG G.H = true := by rw [hG]; rfl
 unfold laws_rows5 at h
 refine kR ?_
 refine kN 1 rfl ?_
 refine ACode_seq ?_
 refine kR ?_
 refine kM 1 rfl ?_
 refine AOps_q 7 _ rfl rfl rfl (QOp_len_sl _ _ _ _ _ _ _ (rowsD_length _) rfl rfl rfl rfl Tryz.underlying34 rfl) ?_
 refine kM 1 rfl ?_
 refine AOps_q 9 _ rfl rfl rfl (QOp_len_sl _ _ _ _ _ _ _ (rowsD_length _) rfl rfl rfl rfl Tryz.underlying34 rfl) ?_
 refine AOps_q 10 _ rfl rfl rfl (QOp_neq _ _ _ _ _ _ _ rfl rfl rfl) ?_
 refine AOps_nil ?_
 refine kI h rfl (fun h _ => ?_) (fun h _ => ?_)
 ·refine kR ?_
  refine kN 1 rfl ?_
  refine ACode_ret ?_
  cases h
  exact ⟨_, _, fun r a w h => ⟨r, h⟩, _, _, [], _, (.cons (ResV_tmp _ _ rfl) .nil), rfl, rfl, rfl, rfl, rfl⟩
 refine ACode_skip ?_
 refine kO (fun s8 => []) (fun s8 => []) h (fun os8 h hks8 => ?_) (fun s8 h => ?_)
 ·refine kR ?_
  refine kN 1 rfl ?_
  refine ACode_block ?_
  refine ACode_loopW (fun k0 E H => ∃ (x2 : Int), E = [(0, .d (.sl none (rowsD p0))), (1, .d (.sl none (rowsD p1))), (5, iV x2)] ∧ H = [] ∧ laws_rows5_l0 k p0 p1 k0 x2 = some os8) k _ _ (Weak_keep 0 hm [0, 1, 5] [] _ _ rfl rfl rfl) ⟨_, rfl, rfl, h⟩ ?_
  clear h
  rintro k0 E H ⟨x2, rfl, rfl, h⟩
  cases k0 with
  | zero => cases (show (none : Option (Sum (Unit) (Bool))) = some _ from h)
  | succ k0 =>
   rw [laws_rows5_l0] at h
   refine ACode_seq ?_
   refine kR ?_
   refine kM 2 rfl ?_
   refine AOps_q 13 _ rfl rfl rfl (QOp_len_sl _ _ _ _ _ _ _ (rowsD_length _) rfl rfl rfl rfl Tryz.underlying34 rfl) ?_
   refine AOps_q 14 _ rfl rfl rfl (QOp_lss _ _ _ _ _ _ _ rfl rfl rfl) ?_
   refine AOps_nil ?_
   refine kI h rfl (fun h _ => ?_) (fun h _ => ?_)
   ·refine ACode_skip ?_
    refine ACode_seq ?_
    refine ACode_block ?_
    refine ACode_seq (ACode_quiet mixed (by kernel_rfl) ?_)
    refine kQ 2 rfl ?_
    obtain ⟨hc4, h⟩ := guardO h
    refine AQ_q 19 _ rfl rfl rfl (QOp_indexAddr_sl _ _ _ _ _ _ _ _ rfl Tryz.underlying34 Tryz.sizeOf27 hc4.1 (by rw [rowsD_length]; exact hc4.2) rfl rfl) ?_
    refine AQ_q 20 _ rfl rfl rfl (QOp_load_pv _ _ _ _ _ rfl Tryz.isAgg27 rfl (rowsD_get _ _ [] (by omega))) ?_
    refine kQ 2 rfl ?_
    obtain ⟨hc5, h⟩ := guardO h
    refine AQ_q 23 _ rfl rfl rfl (QOp_indexAddr_sl _ _ _ _ _ _ _ _ rfl Tryz.underlying34 Tryz.sizeOf27 hc5.1 (by rw [rowsD_length]; exact hc5.2) rfl rfl) ?_
    refine AQ_q 24 _ rfl rfl rfl (QOp_load_pv _ _ _ _ _ rfl Tryz.isAgg27 rfl (rowsD_get _ _ [] (by omega))) ?_
    obtain ⟨r6, hr6, h⟩ := bindO h
    refine AQ_call 25 _ _ _ _ _ _ _ _ _ rfl rfl rfl rfl rfl rfl rfl Tryz.call16 rfl rfl rfl (laws_likeInts_ac k (p0.getD x2.toNat []) (p1.getD x2.toNat []) _ hr6) ?_
    refine AQ_q 26 _ rfl rfl rfl (QOp_not _ _ _ rfl rfl) ?_
    refine AQ_nil ?_
    refine kI h rfl (fun h _ => ?_) (fun h _ => ?_)
    ·refine kR ?_
     refine kN 1 rfl ?_
     refine ACode_ret ?_
     cases h
     have h := hks8
     cases h
     exact ⟨_, _, fun r a w h => ⟨r, h⟩, _, _, [], _, (.cons (ResV_tmp _ _ rfl) .nil), rfl, rfl, rfl, rfl, rfl⟩
    refine ACode_skip ?_
    refine (ACode_region ?_)
    refine kM 1 rfl ?_
    refine AOps_q 16 _ rfl rfl rfl (QOp_add _ _ _ _ _ _ _ rfl rfl rfl) ?_
    refine kN 1 rfl ?_
    exact ⟨k0, _, _, Nat.lt_succ_self _, Weak_keep 0 hm [0, 1, 5] [] _ _ rfl rfl rfl, _, rfl, rfl, h⟩
   refine ACode_exit ?_
   cases h
   exact ⟨_, rfl, Weak_keep 0 hm [] [] _ _ rfl rfl rfl⟩
 refine kR ?_
 refine kN 1 rfl ?_
 refine ACode_ret ?_
 cases h
 exact ⟨_, _, fun r a w h => ⟨r, h⟩, _, _, [], _, (.cons (ResV_tmp _ _ rfl) .nil), rfl, rfl, rfl, rfl, rfl⟩

-- loop.example/g01362/laws.sum
def laws_sum_l0 (p0 : List Int) : Nat → Int → Int → Option (Int)
 | 0, _, _ => none
 | k0 + 1, x1, x2 => (if decide (x2 < (p0.length : Int)) then (if 0 ≤ x2 ∧ x2 < (p0.length : Int) then laws_sum_l0 p0 k0 (w64 (x1 + (p0.getD x2.toNat 0))) (w64 (x2 + 1)) else none) else some x1)
def laws_sum (k : Nat) (p0 : List Int) : Option (Int) :=
 (laws_sum_l0 p0 k 0 0 : Option (Int)).bind fun s5 => some s5
set_option maxRecDepth 100000 in
theorem laws_sum_ac (k : Nat) (p0 : List Int) (r : Int) (h : laws_sum k p0 = some r) : AC Tryz.prog 18 [.d (.sl none (intsD p0))] [] (fun res H' => res = [iV r] ∧ H' = []) := by
 refine AC_of_body true Tryz.func18 rfl Tryz.ntmps18 (rvs := [.tmp 2]) rfl rfl (fun G hG => ?_)
 have hm : G.H.length = 0 := by rw [hG]; rfl
 have hz : zeroG G.H = true := by rw [hG]; rfl
 unfold laws_sum at h
 refine kR ?_
 refine kN 1 rfl ?_
 refine kR ?_
 refine kN 1 rfl ?_
 refine kB (fun s5 => [(3, iV s5)]) (fun s5 => []) h (fun s5 h => ?_) (fun s5 h => ?_)
 ·refine kR ?_
  refine kN 1 rfl ?_
  refine ACode_block ?_
  refine ACode_loopW (fun k0 E H => ∃ (x1 : Int) (x2 : Int), E = [(0, .d (.sl none (intsD p0))), (3, iV x1), (4, iV x2)] ∧ H = [] ∧ laws_sum_l0 p0 k0 x1 x2 = some s5) k _ _ (Weak_keep 0 hm [0, 3, 4] [] _ _ rfl rfl rfl) ⟨_, _, rfl, rfl, h⟩ ?_
  clear h
  rintro k0 E H ⟨x1, x2, rfl, rfl, h⟩
  cases k0 with
  | zero => cases (show (none : Option (Int)) = some _ from h)
  | succ k0 =>
   rw [laws_sum_l0] at h
   refine ACode_seq ?_
   refine kR ?_
   refine kM 2 rfl ?_
   refine AOps_q 7 _ rfl rfl rfl (QOp_len_sl _ _ _ _ _ _ _ (intsD_length _) rfl rfl rfl rfl Tryz.underlying27 rfl) ?_
   refine AOps_q 8 _ rfl rfl rfl (QOp_lss _ _ _ _ _ _ _ rfl rfl rfl) ?_
   refine AOps_nil ?_
   refine kI h rfl (fun h _ => ?_) (fun h _ => ?_)
   ·refine ACode_skip ?_
    refine ACode_seq ?_
    refine ACode_block ?_
    refine (ACode_region ?_)
    refine kM 3 rfl ?_
    obtain ⟨hc4, h⟩ := guardO h
    refine AOps_q 14 _ rfl rfl rfl (QOp_indexAddr_sl _ _ _ _ _ _ _ _ rfl Tryz.underlying27 Tryz.sizeOf2 hc4.1 (by rw [intsD_length]; exact hc4.2) rfl rfl) ?_
    refine AOps_q 15 _ rfl rfl rfl (QOp_load_pv _ _ _ _ _ rfl Tryz.isAgg2 rfl (intsD_get _ _ 0 (by omega))) ?_
    refine AOps_q 16 _ rfl rfl rfl (QOp_add _ _ _ _ _ _ _ rfl rfl rfl) ?_
    refine kN 1 rfl ?_
    refine (ACode_region ?_)
    refine kM 1 rfl ?_
    refine AOps_q 10 _ rfl rfl rfl (QOp_add _ _ _ _ _ _ _ rfl rfl rfl) ?_
    refine kN 1 rfl ?_
    exact ⟨k0, _, _, Nat.lt_succ_self _, Weak_keep 0 hm [0, 3, 4] [] _ _ rfl rfl rfl, _, _, rfl, rfl, h⟩
   refine ACode_exit ?_
   cases h
   exact Weak_keep 0 hm [3] [] _ _ rfl rfl rfl
 refine kR ?_
 refine kN 2 rfl ?_
 refine ACode_ret ?_
 cases h
 exact ⟨_, _, fun r a w h => ⟨r, h⟩, _, _, [], _, (.cons (ResV_tmp _ _ rfl) .nil), rfl, rfl, rfl, rfl, rfl⟩

-- loop.example/g01362/impl.IsExtension$1
def impl_IsExtension_c1 (k : Nat) (p0 : List Int) (p1 : Col) : Option (Bool) :=
 (impl_areIn k p0 p1.p 0 (w64 (p1.k - 1))).bind fun r1 => some r1
set_option maxRecDepth 100000 in
theorem impl_IsExtension_c1_ac (k : Nat) (p0 : List Int) (p1 : Col) (r : Bool) (h : impl_IsExtension_c1 k p0 p1 = some r) : AC Tryz.prog 43 [.d (.pv ([.sl none (intsD p0)]) 0), .d (.pv (colD p1) 0)] [] (fun res H' => res = [bV r] ∧ H' = []) := by
 refine AC_of_body true Tryz.func43 rfl Tryz.ntmps43 (rvs := [.tmp 2]) rfl rfl (fun G hG => ?_)
 have hm : G.H.length = 0 := by rw [hG]; rfl
 have hz : zeroG G.H = true := by rw [hG]; rfl
 unfold impl_IsExtension_c1 at h
 refine kR ?_
 refine kN 1 rfl ?_
 refine kR ?_
 refine AOps_q 3 _ rfl rfl rfl (QOp_load_pv _ _ _ _ _ rfl Tryz.isAgg27 rfl rfl) ?_
 refine AOps_q 4 _ rfl rfl rfl (QOp_fieldAddr_pv _ _ _ _ _ 0 _ _ rfl Tryz.underlying26 rfl _ Tryz.sizeOf2 rfl rfl) ?_
 refine AOps_q 5 _ rfl rfl rfl (QOp_load_pv _ _ _ _ _ rfl Tryz.isAgg2 rfl rfl) ?_
 refine AOps_q 6 _ rfl rfl rfl (QOp_fieldAddr_pv _ _ _ _ _ 1 _ _ rfl Tryz.underlying26 rfl _ Tryz.sizeOf2 rfl rfl) ?_
 refine AOps_q 7 _ rfl rfl rfl (QOp_load_pv _ _ _ _ _ rfl Tryz.isAgg2 rfl rfl) ?_
 refine AOps_q 8 _ rfl rfl rfl (QOp_sub _ _ _ _ _ _ _ rfl rfl rfl) ?_
 obtain ⟨r1, hr1, h⟩ := bindO h
 refine kC [] 9 (bV r1) [] rfl Tryz.call44 rfl rfl (impl_areIn_ac k p0 p1.p 0 (w64 (p1.k - 1)) _ hr1) rfl ?_
 refine kN 1 rfl ?_
 refine ACode_ret ?_
 cases h
 exact ⟨_, _, fun r a w h => ⟨r, h⟩, _, _, [], _, (.cons (ResV_tmp _ _ rfl) .nil), rfl, rfl, rfl, rfl, rfl⟩

-- (*loop.example/g01362/impl.Colouring).put
def impl_Colouring_put (p0 : Col) (p1 : Int) (p2 : Int) (p3 : Int) : Option (Col) :=
 (if 0 ≤ (impl_number p1 p2) ∧ (impl_number p1 p2) < 136 then some (p0.set ((impl_number p1 p2).toNat) (toByte p3)) else none)
set_option maxRecDepth 100000 in
theorem impl_Colouring_put_ac (p0 : Col) (p1 : Int) (p2 : Int) (p3 : Int) (r : Col) (h : impl_Colouring_put p0 p1 p2 p3 = some r) : AC Tryz.prog 78 [.ptr 0 0, iV p1, iV p2, iV p3] [.box (colD p0)] (fun res H' => res = [] ∧ H' = [.box (colD r)]) := by
 refine AC_of_body true Tryz.func78 rfl Tryz.ntmps78 (rvs := []) rfl rfl (fun G hG => ?_)
 have hm : G.H.length = 1 := by rw [hG]; rfl
 have hz : zeroG G.H = true := by rw [hG]; rfl
 unfold impl_Colouring_put at h
 refine (ACode_last (l := [_, _, _, _, _, _, _, _, _]) mixed (by kernel_rfl) (by kernel_rfl) ?_)
 refine kQ 3 rfl ?_
 refine AQ_call 11 _ _ _ _ _ _ _ _ _ rfl rfl rfl rfl rfl rfl rfl Tryz.call101 rfl rfl rfl (impl_number_ac p1 p2) ?_
 refine kQ 1 rfl ?_
 refine AQ_q 13 _ rfl rfl rfl (QOp_toByte _ _ _ _ _ rfl rfl Tryz.underlying5 rfl) ?_
 refine AQ_q 14 _ rfl rfl rfl (QOp_nilCheck_ptr _ _ _ _ rfl rfl rfl rfl) ?_
 refine AQ_q 15 _ rfl rfl rfl (QOp_fieldAddr_ptr _ _ _ _ _ _ 2 _ _ rfl Tryz.underlying26 rfl _ Tryz.sizeOf24 rfl rfl rfl rfl) ?_
 obtain ⟨hc2, h⟩ := guardO h
 refine AQ_q 16 _ rfl rfl rfl (QOp_indexAddrA_ptr _ _ _ _ _ _ _ _ _ _ rfl Tryz.underlying24 Tryz.sizeOf5 hc2.1 hc2.2 rfl rfl rfl rfl) ?_
 refine AQ_nil ?_
 refine AOps_store1 _ _ _ _ _ _ (colD (p0.set ((impl_number p1 p2).toNat) (toByte p3))) _ rfl rfl rfl rfl rfl rfl rfl Tryz.sizeOf5 (by rw [colD_length]; omega) (colD_setE p0 ((impl_number p1 p2).toNat) (toByte p3)) ?_
 refine AOps_nil ?_
 cases h
 exact ⟨_, _, fun r a w h => ⟨r, h⟩, _, _, [], _, .nil, rfl, rfl, rfl, rfl, rfl⟩

-- (loop.example/g01362/impl.Colouring).grown
def impl_Colouring_grown_l0 (p0 : Col) (p1 : List Int) : Nat → Int → Col → Option (Col)
 | 0, _, _ => none
 | k0 + 1, x1, x2 => (if decide (x1 < (p1.length : Int)) then (if 0 ≤ x1 ∧ x1 < (p1.length : Int) then (impl_Colouring_put x2 x1 p0.p (p1.getD x1.toNat 0)).bind fun r5 => impl_Colouring_grown_l0 p0 p1 k0 (w64 (x1 + 1)) r5 else none) else some x2)
def impl_Colouring_grown (k : Nat) (p0 : Col) (p1 : List Int) : Option (Col) :=
 (impl_Colouring_grown_l0 p0 p1 k 0 (⟨w64 (p0.p + 1), p0.k, p0.e⟩ : Col) : Option (Col)).bind fun s6 => some s6
set_option maxRecDepth 100000 in
theorem impl_Colouring_grown_ac (k : Nat) (p0 : Col) (p1 : List Int) (r : Col) (h : impl_Colouring_grown k p0 p1 = some r) : AC Tryz.prog 45 [.d (.agg (colD p0)), .d (.sl none (intsD p1))] [] (fun res H' => res = [.d (.agg (colD r))] ∧ H' = []) := by
 refine AC_of_body true Tryz.func45 rfl Tryz.ntmps45 (rvs := [.cell 4 26]) rfl rfl (fun G hG => ?_)
 have hm : G.H.length = 0 := by rw [hG]; rfl
 have hz : zeroG G.H = true := by rw [hG]; rfl
 unfold impl_Colouring_grown at h
 refine kR ?_
 refine AOps_boxM 2 _ _ (.agg (colD p0)) (colD p0) rfl (colD_one _) rfl rfl rfl rfl rfl ?_
 refine AOps_alloc 4 _ _ (colD Col.zero) (zero_of Tryz.typeInfo26 rfl) (by rfl) rfl rfl rfl rfl ?_
 refine AOps_nil ?_
 refine kR ?_
 refine AOps_q 8 _ rfl rfl rfl (QOp_fieldAddr_ptr _ _ _ _ _ _ 0 _ _ rfl Tryz.underlying26 rfl _ Tryz.sizeOf2 rfl rfl rfl rfl) ?_
 refine AOps_q 9 _ rfl rfl rfl (QOp_load_ptr _ _ _ _ _ _ rfl Tryz.isAgg2 rfl rfl rfl) ?_
 refine kN 1 rfl ?_
 refine kR ?_
 refine AOps_q 10 _ rfl rfl rfl (QOp_fieldAddr_ptr _ _ _ _ _ _ 0 _ _ rfl Tryz.underlying26 rfl _ Tryz.sizeOf2 rfl rfl rfl rfl) ?_
 refine AOps_q 11 _ rfl rfl rfl (QOp_load_ptr _ _ _ _ _ _ rfl Tryz.isAgg2 rfl rfl rfl) ?_
 refine AOps_q 12 _ rfl rfl rfl (QOp_add _ _ _ _ _ _ _ rfl rfl rfl) ?_
 refine AOps_q 13 _ rfl rfl rfl (QOp_fieldAddr_ptr _ _ _ _ _ _ 0 _ _ rfl Tryz.underlying26 rfl _ Tryz.sizeOf2 rfl rfl rfl rfl) ?_
 refine AOps_store1 _ _ _ _ _ _ (colD (⟨w64 (p0.p + 1), p0.k, p0.e⟩ : Col)) _ rfl rfl rfl rfl rfl rfl rfl Tryz.sizeOf2 (by rw [colD_length]; omega) (colD_set0 _ _) ?_
 refine AOps_nil ?_
 refine kB (fun s6 => [(2, .ptr 0 0), (4, .ptr 1 0)]) (fun s6 => [.box (colD s6), .box (colD Col.zero)]) h (fun s6 h => ?_) (fun s6 h => ?_)
 ·refine kR ?_
  refine kM 1 rfl ?_
  refine AOps_q 15 _ rfl rfl rfl (QOp_len_sl _ _ _ _ _ _ _ (intsD_length _) rfl rfl rfl rfl Tryz.underlying27 rfl) ?_
  refine kN 1 rfl ?_
  refine ACode_block ?_
  refine ACode_loopW (fun k0 E H => ∃ (x1 : Int) (x2 : Col), E = [(2, .ptr 0 0), (4, .ptr 1 0), (5, iV p0.p), (14, .d (.sl none (intsD p1))), (15, iV (p1.length : Int)), (16, iV x1)] ∧ H = [.box (colD x2), .box (colD Col.zero)] ∧ impl_Colouring_grown_l0 p0 p1 k0 x1 x2 = some s6) k _ _ (Weak_keep 0 hm [2, 4, 5, 14, 15, 16] [0, 1] _ _ rfl rfl rfl) ⟨_, _, rfl, rfl, h⟩ ?_
  clear h
  rintro k0 E H ⟨x1, x2, rfl, rfl, h⟩
  cases k0 with
  | zero => cases (show (none : Option (Col)) = some _ from h)
  | succ k0 =>
   rw [impl_Colouring_grown_l0] at h
   refine kR ?_
   refine AOps_q 17 _ rfl rfl rfl (QOp_lss _ _ _ _ _ _ _ rfl rfl rfl) ?_
   refine AOps_nil ?_
   refine ACode_seq ?_
   refine kI h rfl (fun h _ => ?_) (fun h _ => ?_)
   ·refine ACode_skip ?_
    refine ACode_seq ?_
    refine ACode_block ?_
    refine kR ?_
    refine kM 1 rfl ?_
    obtain ⟨hc4, h⟩ := guardO h
    refine AOps_q 19 _ rfl rfl rfl (QOp_indexAddr_sl _ _ _ _ _ _ _ _ rfl Tryz.underlying27 Tryz.sizeOf2 hc4.1 (by rw [intsD_length]; exact hc4.2) rfl rfl) ?_
    refine AOps_q 20 _ rfl rfl rfl (QOp_load_pv _ _ _ _ _ rfl Tryz.isAgg2 rfl (intsD_get _ _ 0 (by omega))) ?_
    refine kN 2 rfl ?_
    refine (ACode_region ?_)
    refine kM 3 rfl ?_
    obtain ⟨r5, hr5, h⟩ := bindO h
    refine kC [0] 24 (.tup []) [.box (colD r5), .box (colD Col.zero)] rfl Tryz.call78 rfl rfl (impl_Colouring_put_ac x2 x1 p0.p (p1.getD x1.toNat 0) _ hr5) rfl ?_
    refine AOps_nil ?_
    refine (ACode_region ?_)
    refine AOps_q 25 _ rfl rfl rfl (QOp_add _ _ _ _ _ _ _ rfl rfl rfl) ?_
    refine kN 1 rfl ?_
    exact ⟨k0, _, _, Nat.lt_succ_self _, Weak_keep 0 hm [2, 4, 5, 14, 15, 16] [0, 1] _ _ rfl rfl rfl, _, _, rfl, rfl, h⟩
   refine ACode_exit ?_
   cases h
   exact Weak_keep 0 hm [2, 4] [0, 1] _ _ rfl rfl rfl
 refine kR ?_
 refine AOps_q 26 _ rfl rfl rfl (QOp_loadN_ptr _ _ _ _ _ _ _ rfl Tryz.isAgg26 Tryz.sizeOf26 rfl rfl (colD_all _) (colD_length _)) ?_
 refine AOps_store _ _ _ _ _ _ (colD _) _ _ rfl rfl rfl rfl rfl rfl rfl (colD_one _) (by rw [colD_length]; exact Tryz.sizeOf26) (by rw [colD_length, colD_length]; decide) (colD_whole _ _) ?_
 refine AOps_nil ?_
 refine ACode_ret ?_
 cases h
 exact ⟨_, _, fun r a w h => ⟨r, h⟩, _, _, [], _, (.cons (ResV_agg _ _ _ _ _ _ Tryz.isAgg26 Tryz.sizeOf26 rfl rfl (colD_take _) (colD_length _)) .nil), rfl, rfl, rfl, rfl, rfl⟩

-- loop.example/g01362/impl.IsExtension
def impl_IsExtension (k : Nat) (p0 : Col) (p1 : List Int) (p2 : List Int) : Option (Bool × Int) :=
 (impl_Colouring_extendingCode k p0 p1 (impl_IsExtension_c1 k p2 p0) 16).bind fun r1 => (if !decide (r1 = 0) then some (false, r1) else (impl_Colouring_grown k p0 p2).bind fun r3 => (impl_Colouring_avoids k r3 p1).bind fun r4 => some (r4, 0))
set_option maxRecDepth 100000 in
theorem impl_IsExtension_ac (k : Nat) (p0 : Col) (p1 : List Int) (p2 : List Int) (r : Bool × Int) (h : impl_IsExtension k p0 p1 p2 = some r) : AC Tryz.prog 19 [.d (.agg (colD p0)), .d (.sl none (intsD p1)), .d (.sl none (intsD p2))] [] (fun res H' => res = [bV r.1, iV r.2] ∧ H' = []) := by
 refine AC_of_body true Tryz.func19 rfl Tryz.ntmps19 (rvs := [.tmp 6, .tmp 7]) rfl rfl (fun G hG => ?_)
 have hm : G.H.length = 0 := by rw [hG]; rfl
 have hz : zeroG G.H = true := by rw [hG]; rfl
 unfold impl_IsExtension at h
 refine kR ?_
 refine AOps_boxI 3 _ _ (.agg (colD p0)) (colD p0) rfl (colD_one _) rfl rfl rfl rfl rfl ?_
 refine AOps_boxI 5 _ _ (.sl none (intsD p2)) _ rfl (fun c hc => by cases hc with | head => rfl | tail _ h => cases h) rfl rfl rfl rfl rfl ?_
 refine kN 2 rfl ?_
 refine ACode_seq ?_
 refine kR ?_
 refine kM 1 rfl ?_
 refine AOps_q 11 _ rfl rfl rfl (QOp_makeFuncD _ _ _ _ rfl rfl rfl) ?_
 obtain ⟨r1, hr1, h⟩ := bindO h
 refine kC [] 12 (iV r1) [] rfl Tryz.call28 rfl rfl (impl_Colouring_extendingCode_ac k p0 p1 (impl_IsExtension_c1 k p2 p0) 16 43 ([.pv ([.sl none (intsD p2)]) 0, .pv (colD p0) 0]) Tryz.call43 (fun r h => impl_IsExtension_c1_ac k p2 p0 r h) _ hr1) rfl ?_
 refine kN 1 rfl ?_
 refine kR ?_
 refine kM 1 rfl ?_
 refine AOps_q 14 _ rfl rfl rfl (QOp_neq _ _ _ _ _ _ _ rfl rfl rfl) ?_
 refine AOps_nil ?_
 refine kI h rfl (fun h _ => ?_) (fun h _ => ?_)
 ·refine kR ?_
  refine kN 3 rfl ?_
  refine ACode_ret ?_
  cases h
  exact ⟨_, _, fun r a w h => ⟨r, h⟩, _, _, [], _, (.cons (ResV_tmp _ _ rfl) (.cons (ResV_tmp _ _ rfl) .nil)), rfl, rfl, rfl, rfl, rfl⟩
 refine ACode_skip ?_
 refine kR ?_
 refine AOps_q 16 _ rfl rfl rfl (QOp_loadN_pv _ _ _ _ _ _ rfl Tryz.isAgg26 Tryz.sizeOf26 rfl (colD_all _) (colD_length _)) ?_
 refine AOps_q 17 _ rfl rfl rfl (QOp_load_pv _ _ _ _ _ rfl Tryz.isAgg27 rfl rfl) ?_
 obtain ⟨r3, hr3, h⟩ := bindO h
 refine kC [] 18 (.d (.agg (colD r3))) [] rfl Tryz.call45 rfl rfl (impl_Colouring_grown_ac k p0 p2 _ hr3) rfl ?_
 refine AOps_alloc 9 _ _ (colD Col.zero) (zero_of Tryz.typeInfo26 rfl) (by rfl) rfl rfl rfl rfl ?_
 refine AOps_store _ _ _ _ _ _ (colD _) _ _ rfl rfl rfl rfl rfl rfl rfl (colD_one _) (by rw [colD_length]; exact Tryz.sizeOf26) (by rw [colD_length, colD_length]; decide) (colD_whole _ _) ?_
 refine AOps_nil ?_
 refine kR ?_
 refine kM 1 rfl ?_
 obtain ⟨r4, hr4, h⟩ := bindO h
 refine AOps_callL [] 20 _ _ _ _ _ _ _ _ _ _ rfl rfl rfl rfl rfl rfl rfl Tryz.call40 rfl (nodupB_sound _ rfl) rfl rfl rfl (impl_Colouring_avoids_ac k r3 p1 _ hr4) ?_
 rintro _ _ ⟨rfl, rfl⟩
 refine ⟨(fun _ h => nomatch h), (allc (flat_s _) (fun _ h => nomatch h)), AOps_as 20 (v' := bV r4) (H' := [.box (colD r3)]) rfl rfl ?_⟩
 refine kN 2 rfl ?_
 refine ACode_ret ?_
 cases h
 exact ⟨_, _, fun r a w h => ⟨r, h⟩, _, _, [], _, (.cons (ResV_tmp _ _ rfl) (.cons (ResV_tmp _ _ rfl) .nil)), rfl, rfl, rfl, rfl, rfl⟩

-- loop.example/g01362/impl.PutPoint$1
def impl_PutPoint_c1 (k : Nat) (p0 : List Int) (p1 : Col) : Option (Bool) :=
 (impl_areIn k p0 p1.p 0 (w64 (p1.k - 1))).bind fun r1 => some r1
set_option maxRecDepth 100000 in
theorem impl_PutPoint_c1_ac (k : Nat) (p0 : List Int) (p1 : Col) (r : Bool) (h : impl_PutPoint_c1 k p0 p1 = some r) : AC Tryz.prog 47 [.d (.pv ([.sl none (intsD p0)]) 0), .d (.pv (colD p1) 0)] [] (fun res H' => res = [bV r] ∧ H' = []) := by
 refine AC_of_body true Tryz.func47 rfl Tryz.ntmps47 (rvs := [.tmp 2]) rfl rfl (fun G hG => ?_)
 have hm : G.H.length = 0 := by rw [hG]; rfl
 have hz : zeroG G.H = true := by rw [hG]; rfl
 unfold impl_PutPoint_c1 at h
 refine kR ?_
 refine kN 1 rfl ?_
 refine kR ?_
 refine AOps_q 3 _ rfl rfl rfl (QOp_load_pv _ _ _ _ _ rfl Tryz.isAgg27 rfl rfl) ?_
 refine AOps_q 4 _ rfl rfl rfl (QOp_fieldAddr_pv _ _ _ _ _ 0 _ _ rfl Tryz.underlying26 rfl _ Tryz.sizeOf2 rfl rfl) ?_
 refine AOps_q 5 _ rfl rfl rfl (QOp_load_pv _ _ _ _ _ rfl Tryz.isAgg2 rfl rfl) ?_
 refine AOps_q 6 _ rfl rfl rfl (QOp_fieldAddr_pv _ _ _ _ _ 1 _ _ rfl Tryz.underlying26 rfl _ Tryz.sizeOf2 rfl rfl) ?_
 refine AOps_q 7 _ rfl rfl rfl (QOp_load_pv _ _ _ _ _ rfl Tryz.isAgg2 rfl rfl) ?_
 refine AOps_q 8 _ rfl rfl rfl (QOp_sub _ _ _ _ _ _ _ rfl rfl rfl) ?_
 obtain ⟨r1, hr1, h⟩ := bindO h
 refine kC [] 9 (bV r1) [] rfl Tryz.call44 rfl rfl (impl_areIn_ac k p0 p1.p 0 (w64 (p1.k - 1)) _ hr1) rfl ?_
 refine kN 1 rfl ?_
 refine ACode_ret ?_
 cases h
 exact ⟨_, _, fun r a w h => ⟨r, h⟩, _, _, [], _, (.cons (ResV_tmp _ _ rfl) .nil), rfl, rfl, rfl, rfl, rfl⟩

-- loop.example/g01362/impl.PutPoint
def impl_PutPoint (k : Nat) (p0 : Col) (p1 : List Int) : Option (Col × Int) :=
 (impl_Colouring_code k p0 (impl_PutPoint_c1 k p1 p0)).bind fun r1 => letO (letO (if decide (r1 = 0) then decide (p0.p = 17) else false) fun (s3 : Bool) => (if s3 then 3 else r1)) fun (s5 : Int) => (if !decide (s5 = 0) then some ((⟨0, 0, B136.zero⟩ : Col), s5) else (impl_Colouring_grown k p0 p1).bind fun r7 => some (r7, 0))
set_option maxRecDepth 100000 in
theorem impl_PutPoint_ac (k : Nat) (p0 : Col) (p1 : List Int) (r : Col × Int) (h : impl_PutPoint k p0 p1 = some r) : AC Tryz.prog 20 [.d (.agg (colD p0)), .d (.sl none (intsD p1))] [] (fun res H' => res = [.d (.agg (colD r.1)), iV r.2] ∧ H' = []) := by
 refine AC_of_body true Tryz.func20 rfl Tryz.ntmps20 (rvs := [.cell 4 26, .tmp 5]) rfl rfl (fun G hG => ?_)
 have hm : G.H.length = 0 := by rw [hG]; rfl
 have hz : zeroG G.H = true := by rw [hG]; rfl
 unfold impl_PutPoint at h
 refine kR ?_
 refine AOps_boxI 2 _ _ (.agg (colD p0)) (colD p0) rfl (colD_one _) rfl rfl rfl rfl rfl ?_
 refine AOps_boxI 3 _ _ (.sl none (intsD p1)) _ rfl (fun c hc => by cases hc with | head => rfl | tail _ h => cases h) rfl rfl rfl rfl rfl ?_
 refine AOps_alloc 4 _ _ (colD Col.zero) (zero_of Tryz.typeInfo26 rfl) (by rfl) rfl rfl rfl rfl ?_
 refine kN 1 rfl ?_
 refine kR ?_
 refine AOps_q 7 _ rfl rfl rfl (QOp_makeFuncD _ _ _ _ rfl rfl rfl) ?_
 obtain ⟨r1, hr1, h⟩ := bindO h
 refine kC [] 8 (iV r1) [.box (colD Col.zero)] rfl Tryz.call46 rfl rfl (impl_Colouring_code_ac k p0 (impl_PutPoint_c1 k p1 p0) 47 ([.pv ([.sl none (intsD p1)]) 0, .pv (colD p0) 0]) Tryz.call47 (fun r h => impl_PutPoint_c1_ac k p1 p0 r h) _ hr1) rfl ?_
 refine kN 1 rfl ?_
 refine kL (fun s5 => [(2, .d (.pv (colD p0) 0)), (3, .d (.pv ([.sl none (intsD p1)]) 0)), (4, .ptr 0 0), (6, iV s5)]) (fun s5 => [.box (colD Col.zero)]) h (fun s5 h => ?_) (fun s5 h => ?_)
 ·refine kL (fun s3 => [(2, .d (.pv (colD p0) 0)), (3, .d (.pv ([.sl none (intsD p1)]) 0)), (4, .ptr 0 0), (6, iV r1), (15, bV s3)]) (fun s3 => [.box (colD Col.zero)]) h (fun s3 h => ?_) (fun s3 h => ?_)
  ·refine (ACode_region ?_)
   refine kM 1 rfl ?_
   refine AOps_q 10 _ rfl rfl rfl (QOp_eql _ _ _ _ _ _ _ rfl rfl rfl) ?_
   refine kM 1 rfl ?_
   refine AOps_case 11 _ rfl (fun hb2 => ?_) (fun hb2 => ?_)
   ·have h := iteT hb2 h
    refine AOps_q 12 _ rfl rfl rfl (QOp_fieldAddr_pv _ _ _ _ _ 0 _ _ rfl Tryz.underlying26 rfl _ Tryz.sizeOf2 rfl rfl) ?_
    refine AOps_q 13 _ rfl rfl rfl (QOp_load_pv _ _ _ _ _ rfl Tryz.isAgg2 rfl rfl) ?_
    refine AOps_q 14 _ rfl rfl rfl (QOp_eql _ _ _ _ _ _ _ rfl rfl rfl) ?_
    refine kN 1 rfl ?_
    cases h
    exact Weak_keep 0 hm [2, 3, 4, 6, 15] [0] _ _ rfl rfl rfl
   have h := iteF hb2 h
   refine AOps_skip 12 rfl rfl rfl ?_
   refine AOps_skip 13 rfl rfl rfl ?_
   refine AOps_skip 14 rfl rfl rfl ?_
   refine kN 1 rfl ?_
   cases h
   exact Weak_keep 0 hm [2, 3, 4, 6, 15] [0] _ _ rfl rfl rfl
  refine kI h rfl (fun h _ => ?_) (fun h _ => ?_)
  ·refine (ACode_region ?_)
   refine kN 1 rfl ?_
   cases h
   exact Weak_keep 0 hm [2, 3, 4, 6] [0] _ _ rfl rfl rfl
  refine ACode_skip ?_
  cases h
  exact Weak_keep 0 hm [2, 3, 4, 6] [0] _ _ rfl rfl rfl
 refine ACode_seq ?_
 refine kR ?_
 refine kM 1 rfl ?_
 refine AOps_q 17 _ rfl rfl rfl (QOp_neq _ _ _ _ _ _ _ rfl rfl rfl) ?_
 refine AOps_nil ?_
 refine kI h rfl (fun h _ => ?_) (fun h _ => ?_)
 ·refine kR ?_
  refine AOps_q 18 _ rfl rfl rfl (QOp_build _ _ [] [] [] _ (colD Col.zero) (colD (⟨0, 0, B136.zero⟩ : Col)) [(0, 1), (1, 1), (2, 136)] rfl rfl Tryz.underlying26 (zero_of Tryz.typeInfo26 rfl) (fun w => by simp [Tryz.sizeOf2, Tryz.sizeOf2, Tryz.sizeOf24]) rfl (by rfl) (by rfl) (fun _ h => nomatch h)) ?_
  refine kM 1 rfl ?_
  refine AOps_store _ _ _ _ _ _ (colD _) _ _ rfl rfl rfl rfl rfl rfl rfl (colD_one _) (by rw [colD_length]; exact Tryz.sizeOf26) (by rw [colD_length, colD_length]; decide) (colD_whole _ _) ?_
  refine kN 1 rfl ?_
  refine ACode_ret ?_
  cases h
  exact ⟨_, _, fun r a w h => ⟨r, h⟩, _, _, [], _, (.cons (ResV_agg _ _ _ _ _ _ Tryz.isAgg26 Tryz.sizeOf26 rfl rfl (colD_take _) (colD_length _)) (.cons (ResV_tmp _ _ rfl) .nil)), rfl, rfl, rfl, rfl, rfl⟩
 refine ACode_skip ?_
 refine kR ?_
 refine AOps_q 20 _ rfl rfl rfl (QOp_loadN_pv _ _ _ _ _ _ rfl Tryz.isAgg26 Tryz.sizeOf26 rfl (colD_all _) (colD_length _)) ?_
 refine AOps_q 21 _ rfl rfl rfl (QOp_load_pv _ _ _ _ _ rfl Tryz.isAgg27 rfl rfl) ?_
 obtain ⟨r7, hr7, h⟩ := bindO h
 refine kC [] 22 (.d (.agg (colD r7))) [.box (colD Col.zero)] rfl Tryz.call45 rfl rfl (impl_Colouring_grown_ac k p0 p1 _ hr7) rfl ?_
 refine AOps_store _ _ _ _ _ _ (colD _) _ _ rfl rfl rfl rfl rfl rfl rfl (colD_one _) (by rw [colD_length]; exact Tryz.sizeOf26) (by rw [colD_length, colD_length]; decide) (colD_whole _ _) ?_
 refine kN 1 rfl ?_
 refine ACode_ret ?_
 cases h
 exact ⟨_, _, fun r a w h => ⟨r, h⟩, _, _, [], _, (.cons (ResV_agg _ _ _ _ _ _ Tryz.isAgg26 Tryz.sizeOf26 rfl rfl (colD_take _) (colD_length _)) (.cons (ResV_tmp _ _ rfl) .nil)), rfl, rfl, rfl, rfl, rfl⟩

-- loop.example/g01362/impl.AvoidsSizes
def impl_AvoidsSizes (k : Nat) (p0 : Col) (p1 : List Int) : Option (Bool × Int) :=
 (impl_Colouring_sizesCode k p0 p1 (some (impl_always))).bind fun r1 => (if !decide (r1 = 0) then some (false, r1) else (impl_Colouring_avoids k p0 p1).bind fun r3 => some (r3, 0))
set_option maxRecDepth 100000 in
theorem impl_AvoidsSizes_ac (k : Nat) (p0 : Col) (p1 : List Int) (r : Bool × Int) (h : impl_AvoidsSizes k p0 p1 = some r) : AC Tryz.prog 21 [.d (.agg (colD p0)), .d (.sl none (intsD p1))] [] (fun res H' => res = [bV r.1, iV r.2] ∧ H' = []) := by
 refine AC_of_body true Tryz.func21 rfl Tryz.ntmps21 (rvs := [.tmp 4, .tmp 5]) rfl rfl (fun G hG => ?_)
 have hm : G.H.length = 0 := by rw [hG]; rfl
 have hz : zeroG G.H = true := by rw [hG]; rfl
 unfold impl_AvoidsSizes at h
 refine kR ?_
 refine AOps_boxI 2 _ _ (.agg (colD p0)) (colD p0) rfl (colD_one _) rfl rfl rfl rfl rfl ?_
 refine kN 2 rfl ?_
 refine ACode_seq ?_
 refine kR ?_
 refine kM 1 rfl ?_
 obtain ⟨r1, hr1, h⟩ := bindO h
 refine kC [] 8 (iV r1) [] rfl Tryz.call39 rfl rfl (impl_Colouring_sizesCode_ac k p0 p1 (some (impl_always)) 29 ([]) Tryz.call29 (fun r h => by cases h; exact impl_always_ac) _ hr1) rfl ?_
 refine kN 1 rfl ?_
 refine kR ?_
 refine kM 1 rfl ?_
 refine AOps_q 10 _ rfl rfl rfl (QOp_neq _ _ _ _ _ _ _ rfl rfl rfl) ?_
 refine AOps_nil ?_
 refine kI h rfl (fun h _ => ?_) (fun h _ => ?_)
 ·refine kR ?_
  refine kN 3 rfl ?_
  refine ACode_ret ?_
  cases h
  exact ⟨_, _, fun r a w h => ⟨r, h⟩, _, _, [], _, (.cons (ResV_tmp _ _ rfl) (.cons (ResV_tmp _ _ rfl) .nil)), rfl, rfl, rfl, rfl, rfl⟩
 refine ACode_skip ?_
 refine kR ?_
 refine kM 1 rfl ?_
 obtain ⟨r3, hr3, h⟩ := bindO h
 refine kC [] 13 (bV r3) [] rfl Tryz.call40 rfl rfl (impl_Colouring_avoids_ac k p0 p1 _ hr3) rfl ?_
 refine kN 2 rfl ?_
 refine ACode_ret ?_
 cases h
 exact ⟨_, _, fun r a w h => ⟨r, h⟩, _, _, [], _, (.cons (ResV_tmp _ _ rfl) (.cons (ResV_tmp _ _ rfl) .nil)), rfl, rfl, rfl, rfl, rfl⟩

-- loop.example/g01362/spec.l03DrawList
def spec_l03DrawList_l0 (p1 : Int) (p2 : Int) : Nat → Int → Src → (List Int) → Option (Src × List Int)
 | 0, _, _, _ => none
 | k0 + 1, x1, x2, x3 => (if decide (x1 < p1) then (spec_l01Next x2 p2).bind fun r5 => (if x3.length + ([r5.1]).length ≤ 1099511627776 then spec_l03DrawList_l0 p1 p2 k0 (w64 (x1 + 1)) r5.2 (x3 ++ ([r5.1])) else none) else some (x2, x3))
def spec_l03DrawList (k : Nat) (p0 : Src) (p1 : Int) (p2 : Int) : Option (List Int × Src) :=
 (spec_l03DrawList_l0 p1 p2 k 0 p0 ([] : List Int) : Option (Src × List Int)).bind fun s7 => some (s7.2, s7.1)
set_option maxRecDepth 100000 in
theorem spec_l03DrawList_ac (k : Nat) (p0 : Src) (p1 : Int) (p2 : Int) (r : List Int × Src) (h : spec_l03DrawList k p0 p1 p2 = some r) : AC Tryz.prog 50 [.ptr 0 0, iV p1, iV p2] [.box (srcD p0)] (fun res H' => res = [.vec 1 0] ∧ H' = [.box (srcD r.2), .vec 0 (intsD r.1)]) := by
 refine AC_of_body true Tryz.func50 rfl Tryz.ntmps50 (rvs := [.tmp 6]) rfl rfl (fun G hG => ?_)
 have hm : G.H.length = 1 := by rw [hG]; rfl
 have hz : zeroG G.H = true := by rw [hG]; rfl
 unfold spec_l03DrawList at h
 refine kR ?_
 refine kN 1 rfl ?_
 refine kR ?_
 refine AOps_buildSlice 9 _ _ _ [] (intsD ([] : List Int)) _ rfl rfl rfl rfl rfl (by decide) Tryz.underlying27 Tryz.sizeOf2 (zero_of Tryz.typeInfo2 rfl) rfl rfl (intsD_one _) ?_
 refine kN 1 rfl ?_
 refine kB (fun s7 => [(7, .vec 1 0)]) (fun s7 => [.box (srcD s7.1), .vec 0 (intsD s7.2)]) h (fun s7 h => ?_) (fun s7 h => ?_)
 ·refine kR ?_
  refine kN 1 rfl ?_
  refine ACode_block ?_
  refine ACode_loopW (fun k0 E H => ∃ (x1 : Int) (x2 : Src) (x3 : List Int), E = [(0, .ptr 0 0), (1, iV p1), (2, iV p2), (7, .vec 1 0), (8, iV x1)] ∧ H = [.box (srcD x2), .vec 0 (intsD x3)] ∧ spec_l03DrawList_l0 p1 p2 k0 x1 x2 x3 = some s7) k _ _ (Weak_keep 1 hm [0, 1, 2, 7, 8] [1] _ _ rfl rfl rfl) ⟨_, _, _, rfl, rfl, h⟩ ?_
  clear h
  rintro k0 E H ⟨x1, x2, x3, rfl, rfl, h⟩
  cases k0 with
  | zero => cases (show (none : Option (Src × List Int)) = some _ from h)
  | succ k0 =>
   rw [spec_l03DrawList_l0] at h
   refine ACode_seq ?_
   refine kR ?_
   refine kM 2 rfl ?_
   refine AOps_q 12 _ rfl rfl rfl (QOp_lss _ _ _ _ _ _ _ rfl rfl rfl) ?_
   refine AOps_nil ?_
   refine kI h rfl (fun h _ => ?_) (fun h _ => ?_)
   ·refine ACode_skip ?_
    refine ACode_seq ?_
    refine ACode_block ?_
    refine (ACode_region ?_)
    refine kM 3 rfl ?_
    obtain ⟨r5, hr5, h⟩ := bindO h
    refine kC [0] 18 (iV r5.1) [.box (srcD r5.2), .vec 0 (intsD x3)] rfl Tryz.call51 rfl rfl (spec_l01Next_ac x2 p2 _ hr5) rfl ?_
    refine AOps_buildSlice 19 _ _ _ [_] (intsD ([r5.1])) _ rfl rfl rfl rfl rfl (by decide) Tryz.underlying27 Tryz.sizeOf2 (zero_of Tryz.typeInfo2 rfl) rfl rfl (intsD_one _) ?_
    obtain ⟨hc6, h⟩ := guardO h
    refine AOps_append 20 _ _ _ _ _ _ _ _ _ _ _ _ rfl rfl rfl rfl rfl rfl rfl Tryz.underlying27 Tryz.type2 rfl rfl rfl (by decide) rfl rfl rfl rfl (intsD_one _) (by rw [intsD_length, intsD_length]; exact hc6) ?_
    rw [intsD_app]
    refine kN 1 rfl ?_
    refine (ACode_region ?_)
    refine kM 1 rfl ?_
    refine AOps_q 14 _ rfl rfl rfl (QOp_add _ _ _ _ _ _ _ rfl rfl rfl) ?_
    refine kN 1 rfl ?_
    exact ⟨k0, _, _, Nat.lt_succ_self _, Weak_trans (Weak_keep 1 hm [0, 1, 2, 7, 8] [1] _ _ rfl rfl rfl) (Weak_reset 1 hm hz [0, 1, 2, 7, 8] _ _ rfl rfl), _, _, _, rfl, rfl, h⟩
   refine ACode_exit ?_
   cases h
   exact Weak_keep 1 hm [7] [1] _ _ rfl rfl rfl
 refine kR ?_
 refine kN 2 rfl ?_
 refine ACode_ret ?_
 cases h
 exact ⟨_, _, Weak_reset 1 hm hz [6] _ _ rfl rfl, _, _, [1], _, (.cons (ResV_tmp _ _ rfl) .nil), rfl, rfl, rfl, rfl, rfl⟩

-- loop.example/g01362/spec.DrawIsExtension
def spec_DrawIsExtension (k : Nat) (p0 : List UInt8) : Option (Col × List Int × List Int) :=
 (spec_l01From k p0).bind fun r1 => (spec_l05With k r1).bind fun r2 => (spec_l03DrawList k r2.2.2 r2.1.p r2.1.k).bind fun r3 => (((spec_l05Small k r2.1 r2.2.1).bind fun r4 => (if decide (r4 = 0) then (spec_l01Next r3.2 2).bind fun r6 => some (decide (r6.1 = 0), r6.2) else some (false, r3.2)) : Option (Bool × Src)).bind fun s7 => (if s7.1 then (spec_l05All k r2.1 r2.2.1 40).bind fun r9 => (if decide (0 < (r9.length : Int)) then (spec_l01Next s7.2 (r9.length : Int)).bind fun r11 => (if 0 ≤ r11.1 ∧ r11.1 < (r9.length : Int) then (spec_l01Own (r9.getD r11.1.toNat [])).bind fun r13 => some (r11.2, r13) else none) else some (s7.2, r3.1)) else some (s7.2, r3.1)) : Option (Src × List Int)).bind fun s14 => ((spec_l01Next s14.1 20).bind fun r15 => (if decide (r15.1 = 0) then (if s14.2.length + ([0]).length ≤ 1099511627776 then some (r15.2, (s14.2 ++ ([0]))) else none) else (if decide (r15.1 = 1) then (spec_l01Pick r15.2 ([(-1), r2.1.k])).bind fun r19 => (if 0 ≤ (0 : Int) ∧ (0 : Int) < (s14.2.length : Int) then some (r19.2, s14.2.set (0 : Int).toNat r19.1) else none) else some (r15.2, s14.2))) : Option (Src × List Int)).bind fun s21 => (spec_l01Bad s21.1 r2.1).bind fun r22 => some (r22.1, r2.2.1, s21.2)
set_option maxRecDepth 100000 in
theorem spec_DrawIsExtension_ac (k : Nat) (p0 : List UInt8) (r : Col × List Int × List Int) (h : spec_DrawIsExtension k p0 = some r) : AC Tryz.prog 22 [.d (.sl none (bysD p0))] [] (fun res H' => res = [.d (.agg (colD r.1)), .d (.sl none (intsD r.2.1)), .vec 0 0] ∧ H' = [.vec 0 (intsD r.2.2)]) := by
 refine AC_of_body true Tryz.func22 rfl Tryz.ntmps22 (rvs := [.cell 2 26, .tmp 3, .tmp 4]) rfl rfl (fun G hG => ?_)
 have hm : G.H.length = 0 := by rw [hG]; rfl
 have hz : zeroG G.H = true := by rw [hG]; rfl
 unfold spec_DrawIsExtension at h
 refine kR ?_
 refine AOps_alloc 2 _ _ (colD Col.zero) (zero_of Tryz.typeInfo26 rfl) (by rfl) rfl rfl rfl rfl ?_
 refine kN 2 rfl ?_
 refine kR ?_
 refine kM 1 rfl ?_
 obtain ⟨r1, hr1, h⟩ := bindO h
 refine kC [] 11 (.ptr 1 0) [.box (colD Col.zero), .box (srcD r1)] rfl Tryz.call48 rfl rfl (spec_l01From_ac k p0 _ hr1) rfl ?_
 refine kN 1 rfl ?_
 refine kR ?_
 refine kM 1 rfl ?_
 obtain ⟨r2, hr2, h⟩ := bindO h
 refine kC [1] 14 (.tup [.d (.agg (colD r2.1)), .d (.sl none (intsD r2.2.1))]) [.box (colD Col.zero), .box (srcD r2.2.2)] rfl Tryz.call49 rfl rfl (spec_l05With_ac k r1 _ hr2) rfl ?_
 refine kM 3 rfl ?_
 refine AOps_alloc 6 _ _ (colD Col.zero) (zero_of Tryz.typeInfo26 rfl) (by rfl) rfl rfl rfl rfl ?_
 refine AOps_store _ _ _ _ _ _ (colD _) _ _ rfl rfl rfl rfl rfl rfl rfl (colD_one _) (by rw [colD_length]; exact Tryz.sizeOf26) (by rw [colD_length, colD_length]; decide) (colD_whole _ _) ?_
 refine kN 1 rfl ?_
 refine kR ?_
 refine kM 1 rfl ?_
 refine AOps_q 18 _ rfl rfl rfl (QOp_fieldAddr_ptr _ _ _ _ _ _ 0 _ _ rfl Tryz.underlying26 rfl _ Tryz.sizeOf2 rfl rfl rfl rfl) ?_
 refine AOps_q 19 _ rfl rfl rfl (QOp_load_ptr _ _ _ _ _ _ rfl Tryz.isAgg2 rfl rfl rfl) ?_
 refine AOps_q 20 _ rfl rfl rfl (QOp_fieldAddr_ptr _ _ _ _ _ _ 1 _ _ rfl Tryz.underlying26 rfl _ Tryz.sizeOf2 rfl rfl rfl rfl) ?_
 refine AOps_q 21 _ rfl rfl rfl (QOp_load_ptr _ _ _ _ _ _ rfl Tryz.isAgg2 rfl rfl rfl) ?_
 obtain ⟨r3, hr3, h⟩ := bindO h
 refine kC [1] 22 (.vec 3 0) [.box (colD Col.zero), .box (srcD r3.2), .box (colD r2.1), .vec 0 (intsD r3.1)] rfl Tryz.call50 rfl rfl (spec_l03DrawList_ac k r2.2.2 r2.1.p r2.1.k _ hr3) rfl ?_
 refine kN 1 rfl ?_
 refine kB (fun s14 => [(2, .ptr 0 0), (5, .ptr 1 0), (6, .ptr 2 0), (7, .d (.sl none (intsD r2.2.1))), (8, .vec 3 0)]) (fun s14 => [.box (colD Col.zero), .box (srcD s14.1), .box (colD r2.1), .vec 0 (intsD s14.2)]) h (fun s14 h => ?_) (fun s14 h => ?_)
 ·refine kB (fun s7 => [(2, .ptr 0 0), (5, .ptr 1 0), (6, .ptr 2 0), (7, .d (.sl none (intsD r2.2.1))), (8, .vec 3 0), (31, bV s7.1)]) (fun s7 => [.box (colD Col.zero), .box (srcD s7.2), .box (colD r2.1), .vec 0 (intsD r3.1)]) h (fun s7 h => ?_) (fun s7 h => ?_)
  ·refine (ACode_region ?_)
   refine AOps_q 23 _ rfl rfl rfl (QOp_loadN_ptr _ _ _ _ _ _ _ rfl Tryz.isAgg26 Tryz.sizeOf26 rfl rfl (colD_all _) (colD_length _)) ?_
   refine kM 1 rfl ?_
   obtain ⟨r4, hr4, h⟩ := bindO h
   refine kC [] 25 (iV r4) [.box (colD Col.zero), .box (srcD r3.2), .box (colD r2.1), .vec 0 (intsD r3.1)] rfl Tryz.call32 rfl rfl (spec_l05Small_ac k r2.1 r2.2.1 _ hr4) rfl ?_
   refine AOps_q 26 _ rfl rfl rfl (QOp_eql _ _ _ _ _ _ _ rfl rfl rfl) ?_
   refine kM 1 rfl ?_
   refine AOps_case 27 _ rfl (fun hb5 => ?_) (fun hb5 => ?_)
   ·have h := iteT hb5 h
    refine kM 1 rfl ?_
    obtain ⟨r6, hr6, h⟩ := bindO h
    refine kC [1] 29 (iV r6.1) [.box (colD Col.zero), .box (srcD r6.2), .box (colD r2.1), .vec 0 (intsD r3.1)] rfl Tryz.call51 rfl rfl (spec_l01Next_ac r3.2 2 _ hr6) rfl ?_
    refine AOps_q 30 _ rfl rfl rfl (QOp_eql _ _ _ _ _ _ _ rfl rfl rfl) ?_
    refine kN 1 rfl ?_
    cases h
    exact Weak_keep 0 hm [2, 5, 6, 7, 8, 31] [0, 1, 2, 3] _ _ rfl rfl rfl
   have h := iteF hb5 h
   refine AOps_skip 28 rfl rfl rfl ?_
   refine AOps_skip 29 rfl rfl rfl ?_
   refine AOps_skip 30 rfl rfl rfl ?_
   refine kN 1 rfl ?_
   cases h
   exact Weak_keep 0 hm [2, 5, 6, 7, 8, 31] [0, 1, 2, 3] _ _ rfl rfl rfl
  refine kI h rfl (fun h _ => ?_) (fun h _ => ?_)
  ·refine kR ?_
   refine AOps_q 32 _ rfl rfl rfl (QOp_loadN_ptr _ _ _ _ _ _ _ rfl Tryz.isAgg26 Tryz.sizeOf26 rfl rfl (colD_all _) (colD_length _)) ?_
   refine kM 1 rfl ?_
   obtain ⟨r9, hr9, h⟩ := bindO h
   refine kC [] 34 (.d (.sl none (rowsD r9))) [.box (colD Col.zero), .box (srcD s7.2), .box (colD r2.1), .vec 0 (intsD r3.1)] rfl Tryz.call36 rfl rfl (spec_l05All_ac k r2.1 r2.2.1 40 _ hr9) rfl ?_
   refine kN 1 rfl ?_
   refine kR ?_
   refine kM 1 rfl ?_
   refine AOps_q 36 _ rfl rfl rfl (QOp_len_sl _ _ _ _ _ _ _ (rowsD_length _) rfl rfl rfl rfl Tryz.underlying34 rfl) ?_
   refine AOps_q 37 _ rfl rfl rfl (QOp_gtr _ _ _ _ _ _ _ rfl rfl rfl) ?_
   refine AOps_nil ?_
   refine kI h rfl (fun h _ => ?_) (fun h _ => ?_)
   ·refine (ACode_region ?_)
    refine kM 3 rfl ?_
    refine AOps_q 41 _ rfl rfl rfl (QOp_len_sl _ _ _ _ _ _ _ (rowsD_length _) rfl rfl rfl rfl Tryz.underlying34 rfl) ?_
    obtain ⟨r11, hr11, h⟩ := bindO h
    refine kC [1] 42 (iV r11.1) [.box (colD Col.zero), .box (srcD r11.2), .box (colD r2.1), .vec 0 (intsD r3.1)] rfl Tryz.call51 rfl rfl (spec_l01Next_ac s7.2 (r9.length : Int) _ hr11) rfl ?_
    obtain ⟨hc12, h⟩ := guardO h
    refine AOps_q 43 _ rfl rfl rfl (QOp_indexAddr_sl _ _ _ _ _ _ _ _ rfl Tryz.underlying34 Tryz.sizeOf27 hc12.1 (by rw [rowsD_length]; exact hc12.2) rfl rfl) ?_
    refine AOps_q 44 _ rfl rfl rfl (QOp_load_pv _ _ _ _ _ rfl Tryz.isAgg27 rfl (rowsD_get _ _ [] (by omega))) ?_
    obtain ⟨r13, hr13, h⟩ := bindO h
    refine kC [] 45 (.vec 4 0) [.box (colD Col.zero), .box (srcD r11.2), .box (colD r2.1), .vec 0 (intsD r3.1), .vec 0 (intsD r13)] rfl Tryz.call52 rfl rfl (spec_l01Own_ac (r9.getD r11.1.toNat []) _ hr13) rfl ?_
    refine kN 1 rfl ?_
    cases h
    exact Weak_keep 0 hm [2, 5, 6, 7, 8] [0, 1, 2, 4] _ _ rfl rfl rfl
   refine ACode_skip ?_
   cases h
   exact Weak_keep 0 hm [2, 5, 6, 7, 8] [0, 1, 2, 3] _ _ rfl rfl rfl
  refine ACode_skip ?_
  cases h
  exact Weak_keep 0 hm [2, 5, 6, 7, 8] [0, 1, 2, 3] _ _ rfl rfl rfl
 refine kB (fun s21 => [(2, .ptr 0 0), (5, .ptr 1 0), (6, .ptr 2 0), (7, .d (.sl none (intsD r2.2.1))), (8, .vec 3 0)]) (fun s21 => [.box (colD Col.zero), .box (srcD s21.1), .box (colD r2.1), .vec 0 (intsD s21.2)]) h (fun s21 h => ?_) (fun s21 h => ?_)
 ·refine kR ?_
  refine kM 1 rfl ?_
  obtain ⟨r15, hr15, h⟩ := bindO h
  refine kC [1] 47 (iV r15.1) [.box (colD Col.zero), .box (srcD r15.2), .box (colD r2.1), .vec 0 (intsD s14.2)] rfl Tryz.call51 rfl rfl (spec_l01Next_ac s14.1 20 _ hr15) rfl ?_
  refine AOps_nil ?_
  refine ACode_block ?_
  refine kR ?_
  refine AOps_q 49 _ rfl rfl rfl (QOp_eql _ _ _ _ _ _ _ rfl rfl rfl) ?_
  refine kN 1 rfl ?_
  refine kI h rfl (fun h _ => ?_) (fun h _ => ?_)
  ·refine (ACode_region ?_)
   refine kM 1 rfl ?_
   refine AOps_buildSlice 51 _ _ _ [_] (intsD ([0])) _ rfl rfl rfl rfl rfl (by decide) Tryz.underlying27 Tryz.sizeOf2 (zero_of Tryz.typeInfo2 rfl) rfl rfl (intsD_one _) ?_
   obtain ⟨hc17, h⟩ := guardO h
   refine AOps_append 52 _ _ _ _ _ _ _ _ _ _ _ _ rfl rfl rfl rfl rfl rfl rfl Tryz.underlying27 Tryz.type2 rfl rfl rfl (by decide) rfl rfl rfl rfl (intsD_one _) (by rw [intsD_length, intsD_length]; exact hc17) ?_
   rw [intsD_app]
   refine kN 1 rfl ?_
   cases h
   exact Weak_trans (Weak_keep 0 hm [2, 5, 6, 7, 8] [0, 1, 2, 3] _ _ rfl rfl rfl) (Weak_reset 0 hm hz [2, 5, 6, 7, 8] _ _ rfl rfl)
  refine kR ?_
  refine AOps_q 54 _ rfl rfl rfl (QOp_eql _ _ _ _ _ _ _ rfl rfl rfl) ?_
  refine kN 1 rfl ?_
  refine kI h rfl (fun h _ => ?_) (fun h _ => ?_)
  ·refine (ACode_region ?_)
   refine kM 2 rfl ?_
   refine AOps_q 57 _ rfl rfl rfl (QOp_fieldAddr_ptr _ _ _ _ _ _ 1 _ _ rfl Tryz.underlying26 rfl _ Tryz.sizeOf2 rfl rfl rfl rfl) ?_
   refine AOps_q 58 _ rfl rfl rfl (QOp_load_ptr _ _ _ _ _ _ rfl Tryz.isAgg2 rfl rfl rfl) ?_
   refine AOps_buildSlice 59 _ _ _ [_, _] (intsD ([(-1), r2.1.k])) _ rfl rfl rfl rfl rfl (by decide) Tryz.underlying27 Tryz.sizeOf2 (zero_of Tryz.typeInfo2 rfl) rfl rfl (intsD_one _) ?_
   refine AOps_freezeL [59] 4 0 _ (allc (rfl) (fun _ h => nomatch h)) rfl ?_
   obtain ⟨r19, hr19, h⟩ := bindO h
   refine kC [1] 60 (iV r19.1) [.box (colD Col.zero), .box (srcD r19.2), .box (colD r2.1), .vec 0 (intsD s14.2), .gone] rfl Tryz.call53 rfl rfl (spec_l01Pick_ac r15.2 ([(-1), r2.1.k]) _ hr19) rfl ?_
   obtain ⟨hc20, h⟩ := guardO h
   refine AOps_q 61 _ rfl rfl rfl (QOp_indexAddr_vec _ _ _ _ _ _ _ _ _ rfl Tryz.underlying27 Tryz.sizeOf2 hc20.1 (by rw [intsD_length]; exact hc20.2) rfl rfl rfl) ?_
   refine AOps_store_eptr _ _ _ _ _ _ (intsD s14.2) _ rfl rfl rfl rfl rfl rfl rfl Tryz.sizeOf2 (by rw [intsD_length]; omega) ?_
   rw [intsD_set]
   refine AOps_nil ?_
   cases h
   exact Weak_keep 0 hm [2, 5, 6, 7, 8] [0, 1, 2, 3] _ _ rfl rfl rfl
  refine ACode_skip ?_
  cases h
  exact Weak_keep 0 hm [2, 5, 6, 7, 8] [0, 1, 2, 3] _ _ rfl rfl rfl
 refine kR ?_
 refine kM 1 rfl ?_
 refine AOps_q 63 _ rfl rfl rfl (QOp_loadN_ptr _ _ _ _ _ _ _ rfl Tryz.isAgg26 Tryz.sizeOf26 rfl rfl (colD_all _) (colD_length _)) ?_
 obtain ⟨r22, hr22, h⟩ := bindO h
 refine kC [1] 64 (.d (.agg (colD r22.1))) [.box (colD Col.zero), .box (srcD r22.2), .box (colD r2.1), .vec 0 (intsD s21.2)] rfl Tryz.call54 rfl rfl (spec_l01Bad_ac s21.1 r2.1 _ hr22) rfl ?_
 refine kM 2 rfl ?_
 refine AOps_store _ _ _ _ _ _ (colD _) _ _ rfl rfl rfl rfl rfl rfl rfl (colD_one _) (by rw [colD_length]; exact Tryz.sizeOf26) (by rw [colD_length, colD_length]; decide) (colD_whole _ _) ?_
 refine kN 2 rfl ?_
 refine ACode_ret ?_
 cases h
 exact ⟨_, _, Weak_reset 0 hm hz [2, 3, 4] _ _ rfl rfl, _, _, [3], _, (.cons (ResV_agg _ _ _ _ _ _ Tryz.isAgg26 Tryz.sizeOf26 rfl rfl (colD_take _) (colD_length _)) (.cons (ResV_tmp _ _ rfl) (.cons (ResV_tmp _ _ rfl) .nil))), rfl, rfl, rfl, rfl, rfl⟩

-- loop.example/g01362/spec.l01All
def spec_l01All_l0 (p0 : List Int) (p1 : Int) : Nat → Int → Option (Sum (Unit) (Bool))
 | 0, _ => none
 | k0 + 1, x1 => (if decide (x1 < (p0.length : Int)) then (if 0 ≤ x1 ∧ x1 < (p0.length : Int) then (if !(spec_l01In (p0.getD x1.toNat 0) 0 (w64 (p1 - 1))) then some (.inr false) else spec_l01All_l0 p0 p1 k0 (w64 (x1 + 1))) else none) else some (.inl ()))
def spec_l01All (k : Nat) (p0 : List Int) (p1 : Int) : Option (Bool) :=
 (spec_l01All_l0 p0 p1 k 0 : Option (Sum (Unit) (Bool))).bind fun os6 => (match os6 with | .inl s6 => some true | .inr rr => some rr)
set_option maxRecDepth 100000 in
theorem spec_l01All_ac (k : Nat) (p0 : List Int) (p1 : Int) (r : Bool) (h : spec_l01All k p0 p1 = some r) : AC Tryz.prog 55 [.d (.sl none (intsD p0)), iV p1] [] (fun res H' => res = [bV r] ∧ H' = []) := by
 refine AC_of_body true Tryz.func55 rfl Tryz.ntmps55 (rvs := [.tmp 4]) rfl rfl (fun G hG => ?_)
 have hm : G.H.length = 0 := by rw [hG]; rfl
 have hz : zeroG G.H = true := by rw [hG]; rfl
 unfold spec_l01All at h
 refine kR ?_
 refine kN 1 rfl ?_
 refine kO (fun s6 => []) (fun s6 => []) h (fun os6 h hks6 => ?_) (fun s6 h => ?_)
 ·refine kR ?_
  refine kN 1 rfl ?_
  refine ACode_block ?_
  refine ACode_loopW (fun k0 E H => ∃ (x1 : Int), E = [(0, .d (.sl none (intsD p0))), (1, iV p1), (5, iV x1)] ∧ H = [] ∧ spec_l01All_l0 p0 p1 k0 x1 = some os6) k _ _ (Weak_keep 0 hm [0, 1, 5] [] _ _ rfl rfl rfl) ⟨_, rfl, rfl, h⟩ ?_
  clear h
  rintro k0 E H ⟨x1, rfl, rfl, h⟩
  cases k0 with
  | zero => cases (show (none : Option (Sum (Unit) (Bool))) = some _ from h)
  | succ k0 =>
   rw [spec_l01All_l0] at h
   refine ACode_seq ?_
   refine kR ?_
   refine kM 2 rfl ?_
   refine AOps_q 8 _ rfl rfl rfl (QOp_len_sl _ _ _ _ _ _ _ (intsD_length _) rfl rfl rfl rfl Tryz.underlying27 rfl) ?_
   refine AOps_q 9 _ rfl rfl rfl (QOp_lss _ _ _ _ _ _ _ rfl rfl rfl) ?_
   refine AOps_nil ?_
   refine kI h rfl (fun h _ => ?_) (fun h _ => ?_)
   ·refine ACode_skip ?_
    refine ACode_seq ?_
    refine ACode_block ?_
    refine kR ?_
    refine kM 2 rfl ?_
    obtain ⟨hc3, h⟩ := guardO h
    refine AOps_q 14 _ rfl rfl rfl (QOp_indexAddr_sl _ _ _ _ _ _ _ _ rfl Tryz.underlying27 Tryz.sizeOf2 hc3.1 (by rw [intsD_length]; exact hc3.2) rfl rfl) ?_
    refine AOps_q 15 _ rfl rfl rfl (QOp_load_pv _ _ _ _ _ rfl Tryz.isAgg2 rfl (intsD_get _ _ 0 (by omega))) ?_
    refine kM 1 rfl ?_
    refine AOps_q 17 _ rfl rfl rfl (QOp_sub _ _ _ _ _ _ _ rfl rfl rfl) ?_
    refine kC [] 18 (bV (spec_l01In (p0.getD x1.toNat 0) 0 (w64 (p1 - 1)))) [] rfl Tryz.call84 rfl rfl (spec_l01In_ac (p0.getD x1.toNat 0) 0 (w64 (p1 - 1))) rfl ?_
    refine AOps_q 19 _ rfl rfl rfl (QOp_not _ _ _ rfl rfl) ?_
    refine AOps_nil ?_
    refine kI h rfl (fun h _ => ?_) (fun h _ => ?_)
    ·refine kR ?_
     refine kN 1 rfl ?_
     refine ACode_ret ?_
     cases h
     have h := hks6
     cases h
     exact ⟨_, _, fun r a w h => ⟨r, h⟩, _, _, [], _, (.cons (ResV_tmp _ _ rfl) .nil), rfl, rfl, rfl, rfl, rfl⟩
    refine ACode_skip ?_
    refine (ACode_region ?_)
    refine kM 1 rfl ?_
    refine AOps_q 11 _ rfl rfl rfl (QOp_add _ _ _ _ _ _ _ rfl rfl rfl) ?_
    refine kN 1 rfl ?_
    exact ⟨k0, _, _, Nat.lt_succ_self _, Weak_keep 0 hm [0, 1, 5] [] _ _ rfl rfl rfl, _, rfl, rfl, h⟩
   refine ACode_exit ?_
   cases h
   exact ⟨_, rfl, Weak_keep 0 hm [] [] _ _ rfl rfl rfl⟩
 refine kR ?_
 refine kN 1 rfl ?_
 refine ACode_ret ?_
 cases h
 exact ⟨_, _, fun r a w h => ⟨r, h⟩, _, _, [], _, (.cons (ResV_tmp _ _ rfl) .nil), rfl, rfl, rfl, rfl, rfl⟩

-- loop.example/g01362/spec.IsExtension
def spec_IsExtension (k : Nat) (p0 : Col) (p1 : List Int) (p2 : List Int) : Option (Bool × Int) :=
 (spec_l05Code k p0 p1).bind fun r1 => (((if decide (r1 = 0) then (if !decide ((p2.length : Int) = p0.p) then some true else (spec_l01All k p2 p0.k).bind fun r4 => some (!r4)) else some false) : Option (Bool)).bind fun s5 => (if s5 then some 2 else some r1) : Option (Int)).bind fun s7 => (((if decide (s7 = 0) then (spec_l05Avoids k p0 p1).bind fun r9 => some (!r9) else some false) : Option (Bool)).bind fun s10 => (if s10 then some 5 else some s7) : Option (Int)).bind fun s12 => letO (letO (if decide (s12 = 0) then decide (p0.p = 17) else false) fun (s14 : Bool) => (if s14 then 3 else s12)) fun (s16 : Int) => (if !decide (s16 = 0) then some (false, s16) else (spec_l01Put k p0 p2).bind fun r18 => (spec_l05Avoids k r18 p1).bind fun r19 => some (r19, 0))
set_option maxRecDepth 100000 in
theorem spec_IsExtension_ac (k : Nat) (p0 : Col) (p1 : List Int) (p2 : List Int) (r : Bool × Int) (h : spec_IsExtension k p0 p1 p2 = some r) : AC Tryz.prog 23 [.d (.agg (colD p0)), .d (.sl none (intsD p1)), .d (.sl none (intsD p2))] [] (fun res H' => res = [bV r.1, iV r.2] ∧ H' = []) := by
 refine AC_of_body true Tryz.func23 rfl Tryz.ntmps23 (rvs := [.tmp 6, .tmp 7]) rfl rfl (fun G hG => ?_)
 have hm : G.H.length = 0 := by rw [hG]; rfl
 have hz : zeroG G.H = true := by rw [hG]; rfl
 unfold spec_IsExtension at h
 refine kR ?_
 refine AOps_boxI 3 _ _ (.agg (colD p0)) (colD p0) rfl (colD_one _) rfl rfl rfl rfl rfl ?_
 refine kN 2 rfl ?_
 refine kR ?_
 refine AOps_q 9 _ rfl rfl rfl (QOp_loadN_pv _ _ _ _ _ _ rfl Tryz.isAgg26 Tryz.sizeOf26 rfl (colD_all _) (colD_length _)) ?_
 refine kM 1 rfl ?_
 obtain ⟨r1, hr1, h⟩ := bindO h
 refine kC [] 11 (iV r1) [] rfl Tryz.call41 rfl rfl (spec_l05Code_ac k p0 p1 _ hr1) rfl ?_
 refine kN 1 rfl ?_
 refine kB (fun s7 => [(1, .d (.sl none (intsD p1))), (2, .d (.sl none (intsD p2))), (3, .d (.pv (colD p0) 0)), (8, iV s7)]) (fun s7 => []) h (fun s7 h => ?_) (fun s7 h => ?_)
 ·refine kB (fun s5 => [(1, .d (.sl none (intsD p1))), (2, .d (.sl none (intsD p2))), (3, .d (.pv (colD p0) 0)), (8, iV r1), (27, bV s5)]) (fun s5 => []) h (fun s5 h => ?_) (fun s5 h => ?_)
  ·refine (ACode_region ?_)
   refine kM 1 rfl ?_
   refine AOps_q 13 _ rfl rfl rfl (QOp_eql _ _ _ _ _ _ _ rfl rfl rfl) ?_
   refine kM 1 rfl ?_
   refine AOps_case 14 _ rfl (fun hb2 => ?_) (fun hb2 => ?_)
   ·have h := iteT hb2 h
    refine kM 1 rfl ?_
    refine AOps_q 16 _ rfl rfl rfl (QOp_len_sl _ _ _ _ _ _ _ (intsD_length _) rfl rfl rfl rfl Tryz.underlying27 rfl) ?_
    refine AOps_q 17 _ rfl rfl rfl (QOp_fieldAddr_pv _ _ _ _ _ 0 _ _ rfl Tryz.underlying26 rfl _ Tryz.sizeOf2 rfl rfl) ?_
    refine AOps_q 18 _ rfl rfl rfl (QOp_load_pv _ _ _ _ _ rfl Tryz.isAgg2 rfl rfl) ?_
    refine AOps_q 19 _ rfl rfl rfl (QOp_neq _ _ _ _ _ _ _ rfl rfl rfl) ?_
    refine kM 1 rfl ?_
    refine AOps_case 20 _ rfl (fun hb3 => ?_) (fun hb3 => ?_)
    ·have h := iteT hb3 h
     refine AOps_skip 21 rfl rfl rfl ?_
     refine AOps_skip 22 rfl rfl rfl ?_
     refine AOps_skip 23 rfl rfl rfl ?_
     refine AOps_skip 24 rfl rfl rfl ?_
     refine AOps_skip 25 rfl rfl rfl ?_
     refine kN 2 rfl ?_
     cases h
     exact Weak_keep 0 hm [1, 2, 3, 8, 27] [] _ _ rfl rfl rfl
    have h := iteF hb3 h
    refine kM 1 rfl ?_
    refine AOps_q 22 _ rfl rfl rfl (QOp_fieldAddr_pv _ _ _ _ _ 1 _ _ rfl Tryz.underlying26 rfl _ Tryz.sizeOf2 rfl rfl) ?_
    refine AOps_q 23 _ rfl rfl rfl (QOp_load_pv _ _ _ _ _ rfl Tryz.isAgg2 rfl rfl) ?_
    obtain ⟨r4, hr4, h⟩ := bindO h
    refine kC [] 24 (bV r4) [] rfl Tryz.call55 rfl rfl (spec_l01All_ac k p2 p0.k _ hr4) rfl ?_
    refine AOps_q 25 _ rfl rfl rfl (QOp_not _ _ _ rfl rfl) ?_
    refine kN 2 rfl ?_
    cases h
    exact Weak_keep 0 hm [1, 2, 3, 8, 27] [] _ _ rfl rfl rfl
   have h := iteF hb2 h
   refine AOps_skip 15 rfl rfl rfl ?_
   refine AOps_skip 16 rfl rfl rfl ?_
   refine AOps_skip 17 rfl rfl rfl ?_
   refine AOps_skip 18 rfl rfl rfl ?_
   refine AOps_skip 19 rfl rfl rfl ?_
   refine AOps_skip 20 rfl rfl rfl ?_
   refine AOps_skip 21 rfl rfl rfl ?_
   refine AOps_skip 22 rfl rfl rfl ?_
   refine AOps_skip 23 rfl rfl rfl ?_
   refine AOps_skip 24 rfl rfl rfl ?_
   refine AOps_skip 25 rfl rfl rfl ?_
   refine AOps_skip 26 rfl rfl rfl ?_
   refine kN 1 rfl ?_
   cases h
   exact Weak_keep 0 hm [1, 2, 3, 8, 27] [] _ _ rfl rfl rfl
  refine kI h rfl (fun h _ => ?_) (fun h _ => ?_)
  ·refine (ACode_region ?_)
   refine kN 1 rfl ?_
   cases h
   exact Weak_keep 0 hm [1, 2, 3, 8] [] _ _ rfl rfl rfl
  refine ACode_skip ?_
  cases h
  exact Weak_keep 0 hm [1, 2, 3, 8] [] _ _ rfl rfl rfl
 refine kB (fun s12 => [(1, .d (.sl none (intsD p1))), (2, .d (.sl none (intsD p2))), (3, .d (.pv (colD p0) 0)), (8, iV s12)]) (fun s12 => []) h (fun s12 h => ?_) (fun s12 h => ?_)
 ·refine kB (fun s10 => [(1, .d (.sl none (intsD p1))), (2, .d (.sl none (intsD p2))), (3, .d (.pv (colD p0) 0)), (8, iV s7), (35, bV s10)]) (fun s10 => []) h (fun s10 h => ?_) (fun s10 h => ?_)
  ·refine (ACode_region ?_)
   refine kM 1 rfl ?_
   refine AOps_q 29 _ rfl rfl rfl (QOp_eql _ _ _ _ _ _ _ rfl rfl rfl) ?_
   refine kM 1 rfl ?_
   refine AOps_case 30 _ rfl (fun hb8 => ?_) (fun hb8 => ?_)
   ·have h := iteT hb8 h
    refine AOps_q 31 _ rfl rfl rfl (QOp_loadN_pv _ _ _ _ _ _ rfl Tryz.isAgg26 Tryz.sizeOf26 rfl (colD_all _) (colD_length _)) ?_
    refine kM 1 rfl ?_
    obtain ⟨r9, hr9, h⟩ := bindO h
    refine kC [] 33 (bV r9) [] rfl Tryz.call42 rfl rfl (spec_l05Avoids_ac k p0 p1 _ hr9) rfl ?_
    refine AOps_q 34 _ rfl rfl rfl (QOp_not _ _ _ rfl rfl) ?_
    refine kN 1 rfl ?_
    cases h
    exact Weak_keep 0 hm [1, 2, 3, 8, 35] [] _ _ rfl rfl rfl
   have h := iteF hb8 h
   refine AOps_skip 31 rfl rfl rfl ?_
   refine AOps_skip 32 rfl rfl rfl ?_
   refine AOps_skip 33 rfl rfl rfl ?_
   refine AOps_skip 34 rfl rfl rfl ?_
   refine kN 1 rfl ?_
   cases h
   exact Weak_keep 0 hm [1, 2, 3, 8, 35] [] _ _ rfl rfl rfl
  refine kI h rfl (fun h _ => ?_) (fun h _ => ?_)
  ·refine (ACode_region ?_)
   refine kN 1 rfl ?_
   cases h
   exact Weak_keep 0 hm [1, 2, 3, 8] [] _ _ rfl rfl rfl
  refine ACode_skip ?_
  cases h
  exact Weak_keep 0 hm [1, 2, 3, 8] [] _ _ rfl rfl rfl
 refine kL (fun s16 => [(1, .d (.sl none (intsD p1))), (2, .d (.sl none (intsD p2))), (3, .d (.pv (colD p0) 0)), (8, iV s16)]) (fun s16 => []) h (fun s16 h => ?_) (fun s16 h => ?_)
 ·refine kL (fun s14 => [(1, .d (.sl none (intsD p1))), (2, .d (.sl none (intsD p2))), (3, .d (.pv (colD p0) 0)), (8, iV s12), (42, bV s14)]) (fun s14 => []) h (fun s14 h => ?_) (fun s14 h => ?_)
  ·refine (ACode_region ?_)
   refine kM 1 rfl ?_
   refine AOps_q 37 _ rfl rfl rfl (QOp_eql _ _ _ _ _ _ _ rfl rfl rfl) ?_
   refine kM 1 rfl ?_
   refine AOps_case 38 _ rfl (fun hb13 => ?_) (fun hb13 => ?_)
   ·have h := iteT hb13 h
    refine AOps_q 39 _ rfl rfl rfl (QOp_fieldAddr_pv _ _ _ _ _ 0 _ _ rfl Tryz.underlying26 rfl _ Tryz.sizeOf2 rfl rfl) ?_
    refine AOps_q 40 _ rfl rfl rfl (QOp_load_pv _ _ _ _ _ rfl Tryz.isAgg2 rfl rfl) ?_
    refine AOps_q 41 _ rfl rfl rfl (QOp_eql _ _ _ _ _ _ _ rfl rfl rfl) ?_
    refine kN 1 rfl ?_
    cases h
    exact Weak_keep 0 hm [1, 2, 3, 8, 42] [] _ _ rfl rfl rfl
   have h := iteF hb13 h
   refine AOps_skip 39 rfl rfl rfl ?_
   refine AOps_skip 40 rfl rfl rfl ?_
   refine AOps_skip 41 rfl rfl rfl ?_
   refine kN 1 rfl ?_
   cases h
   exact Weak_keep 0 hm [1, 2, 3, 8, 42] [] _ _ rfl rfl rfl
  refine kI h rfl (fun h _ => ?_) (fun h _ => ?_)
  ·refine (ACode_region ?_)
   refine kN 1 rfl ?_
   cases h
   exact Weak_keep 0 hm [1, 2, 3, 8] [] _ _ rfl rfl rfl
  refine ACode_skip ?_
  cases h
  exact Weak_keep 0 hm [1, 2, 3, 8] [] _ _ rfl rfl rfl
 refine ACode_seq ?_
 refine kR ?_
 refine kM 1 rfl ?_
 refine AOps_q 44 _ rfl rfl rfl (QOp_neq _ _ _ _ _ _ _ rfl rfl rfl) ?_
 refine AOps_nil ?_
 refine kI h rfl (fun h _ => ?_) (fun h _ => ?_)
 ·refine kR ?_
  refine kN 3 rfl ?_
  refine ACode_ret ?_
  cases h
  exact ⟨_, _, fun r a w h => ⟨r, h⟩, _, _, [], _, (.cons (ResV_tmp _ _ rfl) (.cons (ResV_tmp _ _ rfl) .nil)), rfl, rfl, rfl, rfl, rfl⟩
 refine ACode_skip ?_
 refine kR ?_
 refine AOps_q 46 _ rfl rfl rfl (QOp_loadN_pv _ _ _ _ _ _ rfl Tryz.isAgg26 Tryz.sizeOf26 rfl (colD_all _) (colD_length _)) ?_
 refine kM 1 rfl ?_
 obtain ⟨r18, hr18, h⟩ := bindO h
 refine kC [] 48 (.d (.agg (colD r18))) [] rfl Tryz.call56 rfl rfl (spec_l01Put_ac k p0 p2 _ hr18) rfl ?_
 refine kM 1 rfl ?_
 obtain ⟨r19, hr19, h⟩ := bindO h
 refine kC [] 50 (bV r19) [] rfl Tryz.call42 rfl rfl (spec_l05Avoids_ac k r18 p1 _ hr19) rfl ?_
 refine kN 2 rfl ?_
 refine ACode_ret ?_
 cases h
 exact ⟨_, _, fun r a w h => ⟨r, h⟩, _, _, [], _, (.cons (ResV_tmp _ _ rfl) (.cons (ResV_tmp _ _ rfl) .nil)), rfl, rfl, rfl, rfl, rfl⟩

-- loop.example/g01362/spec.l01With
def spec_l01With (p0 : Col) (p1 : Int) (p2 : Int) (p3 : Int) : Option (Col) :=
 (if 0 ≤ (spec_l01Edge p1 p2) ∧ (spec_l01Edge p1 p2) < 136 then some (p0.set ((spec_l01Edge p1 p2).toNat) (toByte p3)) else none)
set_option maxRecDepth 100000 in
theorem spec_l01With_ac (p0 : Col) (p1 : Int) (p2 : Int) (p3 : Int) (r : Col) (h : spec_l01With p0 p1 p2 p3 = some r) : AC Tryz.prog 88 [.d (.agg (colD p0)), iV p1, iV p2, iV p3] [] (fun res H' => res = [.d (.agg (colD r))] ∧ H' = []) := by
 refine AC_of_body true Tryz.func88 rfl Tryz.ntmps88 (rvs := [.cell 8 26]) rfl rfl (fun G hG => ?_)
 have hm : G.H.length = 0 := by rw [hG]; rfl
 have hz : zeroG G.H = true := by rw [hG]; rfl
 unfold spec_l01With at h
 refine kR ?_
 refine AOps_boxM 4 _ _ (.agg (colD p0)) (colD p0) rfl (colD_one _) rfl rfl rfl rfl rfl ?_
 refine AOps_alloc 8 _ _ (colD Col.zero) (zero_of Tryz.typeInfo26 rfl) (by rfl) rfl rfl rfl rfl ?_
 refine AOps_nil ?_
 refine kR ?_
 refine kM 2 rfl ?_
 refine kC [] 11 (iV (spec_l01Edge p1 p2)) [.box (colD p0), .box (colD Col.zero)] rfl Tryz.call85 rfl rfl (spec_l01Edge_ac p1 p2) rfl ?_
 refine kM 1 rfl ?_
 refine AOps_q 13 _ rfl rfl rfl (QOp_toByte _ _ _ _ _ rfl rfl Tryz.underlying5 rfl) ?_
 refine AOps_q 14 _ rfl rfl rfl (QOp_fieldAddr_ptr _ _ _ _ _ _ 2 _ _ rfl Tryz.underlying26 rfl _ Tryz.sizeOf24 rfl rfl rfl rfl) ?_
 obtain ⟨hc2, h⟩ := guardO h
 refine AOps_q 15 _ rfl rfl rfl (QOp_indexAddrA_ptr _ _ _ _ _ _ _ _ _ _ rfl Tryz.underlying24 Tryz.sizeOf5 hc2.1 hc2.2 rfl rfl rfl rfl) ?_
 refine AOps_store1 _ _ _ _ _ _ (colD (p0.set ((spec_l01Edge p1 p2).toNat) (toByte p3))) _ rfl rfl rfl rfl rfl rfl rfl Tryz.sizeOf5 (by rw [colD_length]; omega) (colD_setE p0 ((spec_l01Edge p1 p2).toNat) (toByte p3)) ?_
 refine AOps_nil ?_
 refine kR ?_
 refine AOps_q 16 _ rfl rfl rfl (QOp_loadN_ptr _ _ _ _ _ _ _ rfl Tryz.isAgg26 Tryz.sizeOf26 rfl rfl (colD_all _) (colD_length _)) ?_
 refine AOps_store _ _ _ _ _ _ (colD _) _ _ rfl rfl rfl rfl rfl rfl rfl (colD_one _) (by rw [colD_length]; exact Tryz.sizeOf26) (by rw [colD_length, colD_length]; decide) (colD_whole _ _) ?_
 refine AOps_nil ?_
 refine ACode_ret ?_
 cases h
 exact ⟨_, _, fun r a w h => ⟨r, h⟩, _, _, [], _, (.cons (ResV_agg _ _ _ _ _ _ Tryz.isAgg26 Tryz.sizeOf26 rfl rfl (colD_take _) (colD_length _)) .nil), rfl, rfl, rfl, rfl, rfl⟩

end Go.Proofs.YtjcgphgipleccaaGreat
