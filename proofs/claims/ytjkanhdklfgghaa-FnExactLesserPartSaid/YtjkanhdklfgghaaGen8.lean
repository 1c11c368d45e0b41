/- Plain functions of the program and that the program computes them: printed by the own tool gen.py. No conditions. -/
import Derived.Test.YtjkanhdklfgghaaCloV
import Derived.Test.YtjkanhdklfgghaaAb17
import Derived.Test.YtjkanhdklfgghaaGen7
set_option linter.unusedVariables false
set_option linter.unusedSimpArgs false
namespace Go.Proofs.Ytjkanhdklfgghaa
open Go Go.RowKit Ab

-- loop.example/g01362/spec.l10Size
def spec_l10Size_l0 (p2 : Int) : Nat → Int → Option (Int)
  | 0, _ => none
  | k0 + 1, x5 => (if 0 ≤ IntKind.u64.wrap x5 then (if decide (bAnd .i64 (bShr .i64 p2 (IntKind.u64.wrap x5)) 1 = 0) then spec_l10Size_l0 p2 k0 (w64 (x5 + 1)) else some x5) else none)
def spec_l10Size_l1 (k : Nat) (self : Col → (List Int) → Int → Option (Int × List Int)) (p0 : Col) (p2 : Int) (s8 : Int) : Nat → Int → Int → (List Int) → Option (Int × List Int)
  | 0, _, _, _ => none
  | k1 + 1, x11, x12, x13 => (if decide (x12 < p0.k) then (spec_l01Around k p0 s8 x12).bind fun r15 => (self p0 x13 (bAnd .i64 (bXor .i64 p2 (bShl .i64 1 (IntKind.u64.wrap s8))) r15)).bind fun r16 => spec_l10Size_l1 k self p0 p2 s8 k1 (if x11 < w64 (1 + r16.1) then w64 (1 + r16.1) else x11) (w64 (x12 + 1)) r16.2 else some (x11, x13))
def spec_l10Size_body (self : Col → (List Int) → Int → Option (Int × List Int)) (k : Nat) (p0 : Col) (p1 : List Int) (p2 : Int) : Option (Int × List Int) :=
  (if decide (p2 = 0) then some (0, p1) else (if 0 ≤ p2 ∧ p2 < (p1.length : Int) then (if decide (0 ≤ (p1.getD p2.toNat 0)) then (if 0 ≤ p2 ∧ p2 < (p1.length : Int) then some ((p1.getD p2.toNat 0), p1) else none) else (spec_l10Size_l0 p2 k 0 : Option (Int)).bind fun s8 => (if 0 ≤ IntKind.u64.wrap s8 then (self p0 p1 (bXor .i64 p2 (bShl .i64 1 (IntKind.u64.wrap s8)))).bind fun r10 => (spec_l10Size_l1 k self p0 p2 s8 k (if r10.1 < 1 then 1 else r10.1) 0 r10.2 : Option (Int × List Int)).bind fun s17 => (if 0 ≤ p2 ∧ p2 < (s17.2.length : Int) then some (s17.1, s17.2.set p2.toNat s17.1) else none) else none)) else none))
def spec_l10Size : Nat → Col → (List Int) → Int → Option (Int × List Int)
  | 0, _, _, _ => none
  | k + 1, p0, p1, p2 => spec_l10Size_body (spec_l10Size k) k p0 p1 p2
set_option maxRecDepth 100000 in
theorem spec_l10Size_ac (k : Nat) (p0 : Col) (p1 : List Int) (p2 : Int) (r : Int × List Int) (h : spec_l10Size k p0 p1 p2 = some r) : AC Try.prog 76 [.d (.agg (colD p0)), .vec 0 0, iV p2] [.vec 0 (intsD p1)] (fun res H' => res = [iV r.1] ∧ H' = [.vec 0 (intsD r.2)]) := by
  induction k generalizing p0 p1 p2 r with
  | zero => simp [spec_l10Size] at h
  | succ k ih =>
    rw [spec_l10Size] at h
    obtain ⟨self, hself, hk⟩ : ∃ self : Col → (List Int) → Int → Option (Int × List Int), (∀ (p0 : Col) (p1 : List Int) (p2 : Int) (r : Int × List Int), self p0 p1 p2 = some r → AC Try.prog 76 [.d (.agg (colD p0)), .vec 0 0, iV p2] [.vec 0 (intsD p1)] (fun res H' => res = [iV r.1] ∧ H' = [.vec 0 (intsD r.2)])) ∧ spec_l10Size k = self := ⟨spec_l10Size k, fun p0 p1 p2 r h => ih p0 p1 p2 r h, rfl⟩
    rw [hk] at h
    clear ih hk
    refine AC_of_body true Try.func76 rfl Try.ntmps76 (rvs := [.tmp 6]) rfl rfl (fun G hG => ?_)
    have hm : G.H.length = 1 := by rw [hG]; rfl
    have hz : zeroG G.H = true := by rw [hG]; rfl
    unfold spec_l10Size_body at h
    refine ACode_seq (ACode_region ?_)
    refine AOps_boxI 3 _ _ (.agg (colD p0)) (colD p0) rfl (colD_one _) rfl rfl rfl rfl rfl ?_
    refine AOps_q 6 _ rfl rfl rfl (QOp_assign _ _ rfl rfl) ?_
    refine AOps_nil ?_
    refine ACode_seq ?_
    refine ACode_seq (ACode_region ?_)
    refine AOps_q 11 _ rfl rfl rfl (QOp_move _ _ rfl rfl) ?_
    refine AOps_q 12 _ rfl rfl rfl (QOp_eql _ _ _ _ _ _ _ rfl rfl rfl) ?_
    refine AOps_nil ?_
    refine ACode_cond _ rfl (fun hb1 => ?_) (fun hb1 => ?_)
    · have h := iteT hb1 h
      refine ACode_seq (ACode_region ?_)
      refine AOps_q 6 _ rfl rfl rfl (QOp_assign _ _ rfl rfl) ?_
      refine AOps_nil ?_
      refine ACode_ret ?_
      cases h
      exact ⟨_, _, fun r a w h => ⟨r, h⟩, _, _, [], _, (.cons (ResV_tmp _ _ rfl) .nil), rfl, rfl, rfl, rfl, rfl⟩
    · have h := iteF hb1 h
      refine ACode_skip ?_
      refine ACode_seq ?_
      refine ACode_seq (ACode_region ?_)
      refine AOps_q 13 _ rfl rfl rfl (QOp_move _ _ rfl rfl) ?_
      refine AOps_q 14 _ rfl rfl rfl (QOp_move _ _ rfl rfl) ?_
      obtain ⟨hc2, h⟩ := guardO h
      refine AOps_q 15 _ rfl rfl rfl (QOp_indexAddr_vec _ _ _ _ _ _ _ _ _ rfl Try.underlying38 Try.sizeOf2 hc2.1 (by rw [intsD_length]; exact hc2.2) rfl rfl rfl) ?_
      refine AOps_q 16 _ rfl rfl rfl (QOp_load_eptr _ _ _ _ _ _ _ rfl Try.isAgg2 rfl rfl (intsD_get _ _ 0 (by omega))) ?_
      refine AOps_q 17 _ rfl rfl rfl (QOp_geq _ _ _ _ _ _ _ rfl rfl rfl) ?_
      refine AOps_nil ?_
      refine ACode_cond _ rfl (fun hb3 => ?_) (fun hb3 => ?_)
      · have h := iteT hb3 h
        refine ACode_seq (ACode_region ?_)
        refine AOps_q 18 _ rfl rfl rfl (QOp_move _ _ rfl rfl) ?_
        refine AOps_q 19 _ rfl rfl rfl (QOp_move _ _ rfl rfl) ?_
        obtain ⟨hc4, h⟩ := guardO h
        refine AOps_q 20 _ rfl rfl rfl (QOp_indexAddr_vec _ _ _ _ _ _ _ _ _ rfl Try.underlying38 Try.sizeOf2 hc4.1 (by rw [intsD_length]; exact hc4.2) rfl rfl rfl) ?_
        refine AOps_q 21 _ rfl rfl rfl (QOp_load_eptr _ _ _ _ _ _ _ rfl Try.isAgg2 rfl rfl (intsD_get _ _ 0 (by omega))) ?_
        refine AOps_q 6 _ rfl rfl rfl (QOp_assign _ _ rfl rfl) ?_
        refine AOps_nil ?_
        refine ACode_ret ?_
        cases h
        exact ⟨_, _, fun r a w h => ⟨r, h⟩, _, _, [], _, (.cons (ResV_tmp _ _ rfl) .nil), rfl, rfl, rfl, rfl, rfl⟩
      · have h := iteF hb3 h
        refine ACode_skip ?_
        refine ACode_seq (ACode_region ?_)
        refine AOps_q 7 _ rfl rfl rfl (QOp_assign _ _ rfl rfl) ?_
        refine AOps_nil ?_
        obtain ⟨s8, hss8, hks8⟩ := bindO h
        clear h
        refine ACode_seqJ (fun E' H' => Weak 63 G E' H' [(1, .vec 0 0), (2, iV p2), (3, .d (.pv (colD p0) 0)), (7, iV s8)] [.vec 0 (intsD p1)]) ?_ ?_
        · have h := hss8
          clear hss8
          refine ACode_block ?_
          refine ACode_loopW (fun k0 E H => ∃ (x5 : Int), E = [(1, .vec 0 0), (2, iV p2), (3, .d (.pv (colD p0) 0)), (7, iV x5)] ∧ H = [.vec 0 (intsD p1)] ∧ spec_l10Size_l0 p2 k0 x5 = some s8) k _ _ (Weak_keep 1 hm [1, 2, 3, 7] [] _ _ rfl rfl rfl) ⟨_, rfl, rfl, h⟩ ?_
          clear h
          rintro k0 E H ⟨x5, rfl, rfl, h⟩
          cases k0 with
          | zero => cases (show (none : Option (Int)) = some _ from h)
          | succ k0 =>
            rw [spec_l10Size_l0] at h
            refine ACode_seq ?_
            refine ACode_seq (ACode_region ?_)
            refine AOps_q 22 _ rfl rfl rfl (QOp_move _ _ rfl rfl) ?_
            refine AOps_q 23 _ rfl rfl rfl (QOp_move _ _ rfl rfl) ?_
            refine AOps_q 24 _ rfl rfl rfl (QOp_conv _ _ _ _ _ _ rfl rfl Try.underlying76 rfl) ?_
            obtain ⟨hc6, h⟩ := guardO h
            refine AOps_q 25 _ rfl rfl rfl (QOp_shr _ _ _ _ _ _ _ _ hc6 rfl rfl rfl) ?_
            refine AOps_q 26 _ rfl rfl rfl (QOp_and _ _ _ _ _ _ _ rfl rfl rfl) ?_
            refine AOps_q 27 _ rfl rfl rfl (QOp_eql _ _ _ _ _ _ _ rfl rfl rfl) ?_
            refine AOps_nil ?_
            refine ACode_cond _ rfl (fun hb7 => ?_) (fun hb7 => ?_)
            · have h := iteT hb7 h
              refine ACode_skip ?_
              refine ACode_block ?_
              refine (ACode_region ?_)
              refine AOps_q 28 _ rfl rfl rfl (QOp_move _ _ rfl rfl) ?_
              refine AOps_q 29 _ rfl rfl rfl (QOp_add _ _ _ _ _ _ _ rfl rfl rfl) ?_
              refine AOps_q 7 _ rfl rfl rfl (QOp_assign _ _ rfl rfl) ?_
              refine AOps_nil ?_
              exact ⟨k0, _, _, Nat.lt_succ_self _, Weak_keep 1 hm [1, 2, 3, 7] [] _ _ rfl rfl rfl, _, rfl, rfl, h⟩
            · have h := iteF hb7 h
              refine ACode_exit ?_
              cases h
              exact Weak_keep 1 hm [1, 2, 3, 7] [] _ _ rfl rfl rfl
        intro E' H' hw
        refine ACode_weak hw ?_
        have h := hks8
        refine ACode_seq (ACode_region ?_)
        refine AOps_q 30 _ rfl rfl rfl (QOp_move _ _ rfl rfl) ?_
        refine AOps_q 31 _ rfl rfl rfl (QOp_move _ _ rfl rfl) ?_
        refine AOps_q 32 _ rfl rfl rfl (QOp_conv _ _ _ _ _ _ rfl rfl Try.underlying76 rfl) ?_
        obtain ⟨hc9, h⟩ := guardO h
        refine AOps_q 33 _ rfl rfl rfl (QOp_shl _ _ _ _ _ _ _ _ hc9 rfl rfl rfl) ?_
        refine AOps_q 34 _ rfl rfl rfl (QOp_xor _ _ _ _ _ _ _ rfl rfl rfl) ?_
        refine AOps_q 8 _ rfl rfl rfl (QOp_assign _ _ rfl rfl) ?_
        refine AOps_nil ?_
        refine ACode_seq (ACode_region ?_)
        refine AOps_q 35 _ rfl rfl rfl (QOp_loadN_pv _ _ _ _ _ _ rfl Try.isAgg24 Try.sizeOf24 rfl (colD_all _) (colD_length _)) ?_
        refine AOps_q 36 _ rfl rfl rfl (QOp_move _ _ rfl rfl) ?_
        refine AOps_q 37 _ rfl rfl rfl (QOp_move _ _ rfl rfl) ?_
        obtain ⟨r10, hr10, h⟩ := bindO h
        refine AOps_call [0] 38 _ _ _ _ _ _ _ _ _ _ rfl rfl rfl rfl rfl rfl rfl Try.call76 rfl (nodupB_sound _ rfl) rfl rfl rfl (hself p0 p1 (bXor .i64 p2 (bShl .i64 1 (IntKind.u64.wrap s8))) _ hr10) ?_
        rintro _ _ ⟨rfl, rfl⟩
        refine ⟨(allc (fun _ _ => trivial) (fun _ h => nomatch h)), (allc (trivial) (fun _ h => nomatch h)), AOps_as 38 (v' := iV r10.1) (H' := [.vec 0 (intsD r10.2)]) rfl rfl ?_⟩
        refine AOps_q 39 _ rfl rfl rfl (QOp_max _ _ _ _ _ _ rfl rfl rfl rfl rfl) ?_
        refine AOps_q 9 _ rfl rfl rfl (QOp_assign _ _ rfl rfl) ?_
        refine AOps_nil ?_
        obtain ⟨s17, hss17, hks17⟩ := bindO h
        clear h
        refine ACode_seqJ (fun E' H' => Weak 63 G E' H' [(1, .vec 0 0), (2, iV p2), (9, iV s17.1)] [.vec 0 (intsD s17.2)]) ?_ ?_
        · have h := hss17
          clear hss17
          refine ACode_seq (ACode_region ?_)
          refine AOps_q 10 _ rfl rfl rfl (QOp_assign _ _ rfl rfl) ?_
          refine AOps_nil ?_
          refine ACode_block ?_
          refine ACode_loopW (fun k1 E H => ∃ (x11 : Int) (x12 : Int) (x13 : List Int), E = [(1, .vec 0 0), (2, iV p2), (3, .d (.pv (colD p0) 0)), (7, iV s8), (8, iV (bXor .i64 p2 (bShl .i64 1 (IntKind.u64.wrap s8)))), (9, iV x11), (10, iV x12)] ∧ H = [.vec 0 (intsD x13)] ∧ spec_l10Size_l1 k self p0 p2 s8 k1 x11 x12 x13 = some s17) k _ _ (Weak_keep 1 hm [1, 2, 3, 7, 8, 9, 10] [] _ _ rfl rfl rfl) ⟨_, _, _, rfl, rfl, h⟩ ?_
          clear h
          rintro k1 E H ⟨x11, x12, x13, rfl, rfl, h⟩
          cases k1 with
          | zero => cases (show (none : Option (Int × List Int)) = some _ from h)
          | succ k1 =>
            rw [spec_l10Size_l1] at h
            refine ACode_seq ?_
            refine ACode_seq (ACode_region ?_)
            refine AOps_q 40 _ rfl rfl rfl (QOp_move _ _ rfl rfl) ?_
            refine AOps_q 41 _ rfl rfl rfl (QOp_fieldAddr_pv _ _ _ _ _ 1 _ _ rfl Try.underlying24 rfl _ Try.sizeOf2 rfl rfl) ?_
            refine AOps_q 42 _ rfl rfl rfl (QOp_load_pv _ _ _ _ _ rfl Try.isAgg2 rfl rfl) ?_
            refine AOps_q 43 _ rfl rfl rfl (QOp_lss _ _ _ _ _ _ _ rfl rfl rfl) ?_
            refine AOps_nil ?_
            refine ACode_cond _ rfl (fun hb14 => ?_) (fun hb14 => ?_)
            · have h := iteT hb14 h
              refine ACode_skip ?_
              refine ACode_seq ?_
              refine ACode_block ?_
              obtain ⟨r15, hr15, h⟩ := bindO h
              obtain ⟨r16, hr16, h⟩ := bindO h
              refine ACode_reg [(1, .vec 0 0), (2, iV p2), (3, .d (.pv (colD p0) 0)), (7, iV s8), (8, iV (bXor .i64 p2 (bShl .i64 1 (IntKind.u64.wrap s8)))), (9, iV (if x11 < w64 (1 + r16.1) then w64 (1 + r16.1) else x11)), (10, iV x12)] [.vec 0 (intsD r16.2)] ?_ ?_
              · refine ACode_anyU mixed ?_
                refine AU_u 0 46 _ rfl (by kernel_rfl) rfl rfl rfl (UOp_move _ _ rfl rfl) ?_
                refine AU_u 2 48 _ rfl (by kernel_rfl) rfl rfl rfl (UOp_move _ _ rfl rfl) ?_
                refine AU_u 3 49 _ rfl (by kernel_rfl) rfl rfl rfl (UOp_move _ _ rfl rfl) ?_
                refine AU_u 5 51 _ rfl (by kernel_rfl) rfl rfl rfl (UOp_move _ _ rfl rfl) ?_
                refine AU_u 6 52 _ rfl (by kernel_rfl) rfl rfl rfl (UOp_move _ _ rfl rfl) ?_
                refine AU_all [1, 4] (by kernel_rfl) rfl (allc ?_ (allc ?_ (fun _ h => nomatch h)))
                · refine US_of 1 rfl rfl ?_
                  refine AOps_q 47 _ rfl rfl rfl (QOp_loadN_pv _ _ _ _ _ _ rfl Try.isAgg24 Try.sizeOf24 rfl (colD_all _) (colD_length _)) ?_
                  refine AOps_nil ?_
                  refine AU_all [4] (by kernel_rfl) rfl (allc ?_ (fun _ h => nomatch h))
                  · refine US_of 4 rfl rfl ?_
                    refine AOps_q 50 _ rfl rfl rfl (QOp_loadN_pv _ _ _ _ _ _ rfl Try.isAgg24 Try.sizeOf24 rfl (colD_all _) (colD_length _)) ?_
                    refine AOps_nil ?_
                    refine AU_all [7] (by kernel_rfl) rfl (allc ?_ (fun _ h => nomatch h))
                    · refine US_of 7 rfl rfl ?_
                      refine AOps_call [] 53 _ _ _ _ _ _ _ _ _ _ rfl rfl rfl rfl rfl rfl rfl Try.call77 rfl (nodupB_sound _ rfl) rfl rfl rfl (spec_l01Around_ac k p0 s8 x12 _ hr15) ?_
                      rintro _ _ ⟨rfl, rfl⟩
                      refine ⟨(fun _ h => nomatch h), (allc (trivial) (fun _ h => nomatch h)), AOps_as 53 (v' := iV r15) (H' := [.vec 0 (intsD x13)]) rfl rfl ?_⟩
                      refine AOps_nil ?_
                      refine AU_u 8 54 _ rfl (by kernel_rfl) rfl rfl rfl (UOp_and _ _ _ _ _ _ _ rfl rfl rfl) ?_
                      refine AU_all [9] (by kernel_rfl) rfl (allc ?_ (fun _ h => nomatch h))
                      · refine US_of 9 rfl rfl ?_
                        refine AOps_call [0] 55 _ _ _ _ _ _ _ _ _ _ rfl rfl rfl rfl rfl rfl rfl Try.call76 rfl (nodupB_sound _ rfl) rfl rfl rfl (hself p0 x13 (bAnd .i64 (bXor .i64 p2 (bShl .i64 1 (IntKind.u64.wrap s8))) r15) _ hr16) ?_
                        rintro _ _ ⟨rfl, rfl⟩
                        refine ⟨(allc (fun _ _ => trivial) (fun _ h => nomatch h)), (allc (trivial) (fun _ h => nomatch h)), AOps_as 55 (v' := iV r16.1) (H' := [.vec 0 (intsD r16.2)]) rfl rfl ?_⟩
                        refine AOps_nil ?_
                        refine AU_u 10 56 _ rfl (by kernel_rfl) rfl rfl rfl (UOp_add _ _ _ _ _ _ _ rfl rfl rfl) ?_
                        refine AU_u 11 57 _ rfl (by kernel_rfl) rfl rfl rfl (UOp_max _ _ _ _ _ _ rfl rfl rfl rfl rfl) ?_
                        refine AU_u 12 9 _ rfl (by kernel_rfl) rfl rfl rfl (UOp_assign _ _ rfl rfl) ?_
                        refine AU_done (by kernel_rfl) ?_
                        exact ⟨rfl, Weak_keep 1 hm [1, 2, 3, 7, 8, 9, 10] [] _ _ rfl rfl rfl⟩
                · refine US_of 4 rfl rfl ?_
                  refine AOps_q 50 _ rfl rfl rfl (QOp_loadN_pv _ _ _ _ _ _ rfl Try.isAgg24 Try.sizeOf24 rfl (colD_all _) (colD_length _)) ?_
                  refine AOps_nil ?_
                  refine AU_all [1, 7] (by kernel_rfl) rfl (allc ?_ (allc ?_ (fun _ h => nomatch h)))
                  · refine US_of 1 rfl rfl ?_
                    refine AOps_q 47 _ rfl rfl rfl (QOp_loadN_pv _ _ _ _ _ _ rfl Try.isAgg24 Try.sizeOf24 rfl (colD_all _) (colD_length _)) ?_
                    refine AOps_nil ?_
                    refine AU_all [7] (by kernel_rfl) rfl (allc ?_ (fun _ h => nomatch h))
                    · refine US_of 7 rfl rfl ?_
                      refine AOps_call [] 53 _ _ _ _ _ _ _ _ _ _ rfl rfl rfl rfl rfl rfl rfl Try.call77 rfl (nodupB_sound _ rfl) rfl rfl rfl (spec_l01Around_ac k p0 s8 x12 _ hr15) ?_
                      rintro _ _ ⟨rfl, rfl⟩
                      refine ⟨(fun _ h => nomatch h), (allc (trivial) (fun _ h => nomatch h)), AOps_as 53 (v' := iV r15) (H' := [.vec 0 (intsD x13)]) rfl rfl ?_⟩
                      refine AOps_nil ?_
                      refine AU_u 8 54 _ rfl (by kernel_rfl) rfl rfl rfl (UOp_and _ _ _ _ _ _ _ rfl rfl rfl) ?_
                      refine AU_all [9] (by kernel_rfl) rfl (allc ?_ (fun _ h => nomatch h))
                      · refine US_of 9 rfl rfl ?_
                        refine AOps_call [0] 55 _ _ _ _ _ _ _ _ _ _ rfl rfl rfl rfl rfl rfl rfl Try.call76 rfl (nodupB_sound _ rfl) rfl rfl rfl (hself p0 x13 (bAnd .i64 (bXor .i64 p2 (bShl .i64 1 (IntKind.u64.wrap s8))) r15) _ hr16) ?_
                        rintro _ _ ⟨rfl, rfl⟩
                        refine ⟨(allc (fun _ _ => trivial) (fun _ h => nomatch h)), (allc (trivial) (fun _ h => nomatch h)), AOps_as 55 (v' := iV r16.1) (H' := [.vec 0 (intsD r16.2)]) rfl rfl ?_⟩
                        refine AOps_nil ?_
                        refine AU_u 10 56 _ rfl (by kernel_rfl) rfl rfl rfl (UOp_add _ _ _ _ _ _ _ rfl rfl rfl) ?_
                        refine AU_u 11 57 _ rfl (by kernel_rfl) rfl rfl rfl (UOp_max _ _ _ _ _ _ rfl rfl rfl rfl rfl) ?_
                        refine AU_u 12 9 _ rfl (by kernel_rfl) rfl rfl rfl (UOp_assign _ _ rfl rfl) ?_
                        refine AU_done (by kernel_rfl) ?_
                        exact ⟨rfl, Weak_keep 1 hm [1, 2, 3, 7, 8, 9, 10] [] _ _ rfl rfl rfl⟩
                  · refine US_of 7 rfl rfl ?_
                    refine AOps_call [] 53 _ _ _ _ _ _ _ _ _ _ rfl rfl rfl rfl rfl rfl rfl Try.call77 rfl (nodupB_sound _ rfl) rfl rfl rfl (spec_l01Around_ac k p0 s8 x12 _ hr15) ?_
                    rintro _ _ ⟨rfl, rfl⟩
                    refine ⟨(fun _ h => nomatch h), (allc (trivial) (fun _ h => nomatch h)), AOps_as 53 (v' := iV r15) (H' := [.vec 0 (intsD x13)]) rfl rfl ?_⟩
                    refine AOps_nil ?_
                    refine AU_u 8 54 _ rfl (by kernel_rfl) rfl rfl rfl (UOp_and _ _ _ _ _ _ _ rfl rfl rfl) ?_
                    refine AU_all [1] (by kernel_rfl) rfl (allc ?_ (fun _ h => nomatch h))
                    · refine US_of 1 rfl rfl ?_
                      refine AOps_q 47 _ rfl rfl rfl (QOp_loadN_pv _ _ _ _ _ _ rfl Try.isAgg24 Try.sizeOf24 rfl (colD_all _) (colD_length _)) ?_
                      refine AOps_nil ?_
                      refine AU_all [9] (by kernel_rfl) rfl (allc ?_ (fun _ h => nomatch h))
                      · refine US_of 9 rfl rfl ?_
                        refine AOps_call [0] 55 _ _ _ _ _ _ _ _ _ _ rfl rfl rfl rfl rfl rfl rfl Try.call76 rfl (nodupB_sound _ rfl) rfl rfl rfl (hself p0 x13 (bAnd .i64 (bXor .i64 p2 (bShl .i64 1 (IntKind.u64.wrap s8))) r15) _ hr16) ?_
                        rintro _ _ ⟨rfl, rfl⟩
                        refine ⟨(allc (fun _ _ => trivial) (fun _ h => nomatch h)), (allc (trivial) (fun _ h => nomatch h)), AOps_as 55 (v' := iV r16.1) (H' := [.vec 0 (intsD r16.2)]) rfl rfl ?_⟩
                        refine AOps_nil ?_
                        refine AU_u 10 56 _ rfl (by kernel_rfl) rfl rfl rfl (UOp_add _ _ _ _ _ _ _ rfl rfl rfl) ?_
                        refine AU_u 11 57 _ rfl (by kernel_rfl) rfl rfl rfl (UOp_max _ _ _ _ _ _ rfl rfl rfl rfl rfl) ?_
                        refine AU_u 12 9 _ rfl (by kernel_rfl) rfl rfl rfl (UOp_assign _ _ rfl rfl) ?_
                        refine AU_done (by kernel_rfl) ?_
                        exact ⟨rfl, Weak_keep 1 hm [1, 2, 3, 7, 8, 9, 10] [] _ _ rfl rfl rfl⟩
              refine (ACode_region ?_)
              refine AOps_q 44 _ rfl rfl rfl (QOp_move _ _ rfl rfl) ?_
              refine AOps_q 45 _ rfl rfl rfl (QOp_add _ _ _ _ _ _ _ rfl rfl rfl) ?_
              refine AOps_q 10 _ rfl rfl rfl (QOp_assign _ _ rfl rfl) ?_
              refine AOps_nil ?_
              exact ⟨k1, _, _, Nat.lt_succ_self _, Weak_keep 1 hm [1, 2, 3, 7, 8, 9, 10] [] _ _ rfl rfl rfl, _, _, _, rfl, rfl, h⟩
            · have h := iteF hb14 h
              refine ACode_exit ?_
              cases h
              exact Weak_keep 1 hm [1, 2, 9] [] _ _ rfl rfl rfl
        intro E' H' hw
        refine ACode_weak hw ?_
        have h := hks17
        refine ACode_seq (ACode_region ?_)
        refine AOps_q 58 _ rfl rfl rfl (QOp_move _ _ rfl rfl) ?_
        refine AOps_q 59 _ rfl rfl rfl (QOp_move _ _ rfl rfl) ?_
        refine AOps_q 60 _ rfl rfl rfl (QOp_move _ _ rfl rfl) ?_
        obtain ⟨hc18, h⟩ := guardO h
        refine AOps_q 61 _ rfl rfl rfl (QOp_indexAddr_vec _ _ _ _ _ _ _ _ _ rfl Try.underlying38 Try.sizeOf2 hc18.1 (by rw [intsD_length]; exact hc18.2) rfl rfl rfl) ?_
        refine AOps_store_eptr _ _ _ _ _ _ (intsD s17.2) _ rfl rfl rfl rfl rfl rfl rfl Try.sizeOf2 (by rw [intsD_length]; omega) ?_
        rw [intsD_set]
        refine AOps_nil ?_
        refine ACode_seq (ACode_region ?_)
        refine AOps_q 62 _ rfl rfl rfl (QOp_move _ _ rfl rfl) ?_
        refine AOps_q 6 _ rfl rfl rfl (QOp_assign _ _ rfl rfl) ?_
        refine AOps_nil ?_
        refine ACode_ret ?_
        cases h
        exact ⟨_, _, fun r a w h => ⟨r, h⟩, _, _, [], _, (.cons (ResV_tmp _ _ rfl) .nil), rfl, rfl, rfl, rfl, rfl⟩

-- loop.example/g01362/spec.l10Each
def spec_l10Each_l1 (p0 : List Int) (x1 : Int) (x2 : List Int) : Nat → Bool → Int → Option (Bool)
  | 0, _, _ => none
  | k1 + 1, x4, x5 => (if decide (x5 < (x2.length : Int)) then ((if x4 then some true else (if 0 ≤ x5 ∧ x5 < (x2.length : Int) then (if 0 ≤ x1 ∧ x1 < (p0.length : Int) then some (decide ((x2.getD x5.toNat 0) = (p0.getD x1.toNat 0))) else none) else none)) : Option (Bool)).bind fun s10 => spec_l10Each_l1 p0 x1 x2 k1 s10 (w64 (x5 + 1)) else some x4)
def spec_l10Each_l0 (k : Nat) (p0 : List Int) : Nat → Int → (List Int) → Option (List Int)
  | 0, _, _ => none
  | k0 + 1, x1, x2 => (if decide (x1 < (p0.length : Int)) then ((spec_l10Each_l1 p0 x1 x2 k false 0 : Option (Bool)).bind fun s11 => (if !s11 then (if 0 ≤ x1 ∧ x1 < (p0.length : Int) then (if x2.length + ([(p0.getD x1.toNat 0)]).length ≤ 1099511627776 then some (x2 ++ ([(p0.getD x1.toNat 0)])) else none) else none) else some x2) : Option (List Int)).bind fun s15 => spec_l10Each_l0 k p0 k0 (w64 (x1 + 1)) s15 else some x2)
def spec_l10Each (k : Nat) (p0 : List Int) : Option (List Int) :=
  (spec_l10Each_l0 k p0 k 0 ([] : List Int) : Option (List Int)).bind fun s16 => some s16
set_option maxRecDepth 100000 in
theorem spec_l10Each_ac (k : Nat) (p0 : List Int) (r : List Int) (h : spec_l10Each k p0 = some r) : AC Try.prog 78 [.d (.sl none (intsD p0))] [] (fun res H' => res = [.vec 0 0] ∧ H' = [.vec 0 (intsD r)]) := by
  refine AC_of_body true Try.func78 rfl Try.ntmps78 (rvs := [.tmp 2]) rfl rfl (fun G hG => ?_)
  have hm : G.H.length = 0 := by rw [hG]; rfl
  have hz : zeroG G.H = true := by rw [hG]; rfl
  unfold spec_l10Each at h
  refine ACode_seq (ACode_region ?_)
  refine AOps_q 2 _ rfl rfl rfl (QOp_assign _ _ rfl rfl) ?_
  refine AOps_nil ?_
  refine ACode_seq (ACode_region ?_)
  refine AOps_buildSlice 7 _ _ _ [] (intsD ([] : List Int)) _ rfl rfl rfl rfl rfl (by decide) Try.underlying38 Try.sizeOf2 (zero_of Try.typeInfo2 rfl) rfl rfl (intsD_one _) ?_
  refine AOps_q 3 _ rfl rfl rfl (QOp_assign _ _ rfl rfl) ?_
  refine AOps_nil ?_
  obtain ⟨s16, hss16, hks16⟩ := bindO h
  clear h
  refine ACode_seqJ (fun E' H' => Weak 42 G E' H' [(3, .vec 0 0)] [.vec 0 (intsD s16)]) ?_ ?_
  · have h := hss16
    clear hss16
    refine ACode_seq (ACode_region ?_)
    refine AOps_q 4 _ rfl rfl rfl (QOp_assign _ _ rfl rfl) ?_
    refine AOps_nil ?_
    refine ACode_block ?_
    refine ACode_loopW (fun k0 E H => ∃ (x1 : Int) (x2 : List Int), E = [(0, .d (.sl none (intsD p0))), (3, .vec 0 0), (4, iV x1)] ∧ H = [.vec 0 (intsD x2)] ∧ spec_l10Each_l0 k p0 k0 x1 x2 = some s16) k _ _ (Weak_keep 0 hm [0, 3, 4] [0] _ _ rfl rfl rfl) ⟨_, _, rfl, rfl, h⟩ ?_
    clear h
    rintro k0 E H ⟨x1, x2, rfl, rfl, h⟩
    cases k0 with
    | zero => cases (show (none : Option (List Int)) = some _ from h)
    | succ k0 =>
      rw [spec_l10Each_l0] at h
      refine ACode_seq ?_
      refine ACode_seq (ACode_region ?_)
      refine AOps_q 8 _ rfl rfl rfl (QOp_move _ _ rfl rfl) ?_
      refine AOps_q 9 _ rfl rfl rfl (QOp_move _ _ rfl rfl) ?_
      refine AOps_q 10 _ rfl rfl rfl (QOp_len_sl _ _ _ _ _ _ _ (intsD_length _) rfl rfl rfl rfl Try.underlying38 rfl) ?_
      refine AOps_q 11 _ rfl rfl rfl (QOp_lss _ _ _ _ _ _ _ rfl rfl rfl) ?_
      refine AOps_nil ?_
      refine ACode_cond _ rfl (fun hb3 => ?_) (fun hb3 => ?_)
      · have h := iteT hb3 h
        refine ACode_skip ?_
        obtain ⟨s15, hss15, hks15⟩ := bindO h
        clear h
        refine ACode_seqJ (fun E' H' => Weak 42 G E' H' [(0, .d (.sl none (intsD p0))), (3, .vec 0 0), (4, iV x1)] [.vec 0 (intsD s15)]) ?_ ?_
        · have h := hss15
          clear hss15
          refine ACode_block ?_
          refine ACode_seq (ACode_region ?_)
          refine AOps_q 5 _ rfl rfl rfl (QOp_assign _ _ rfl rfl) ?_
          refine AOps_nil ?_
          obtain ⟨s11, hss11, hks11⟩ := bindO h
          clear h
          refine ACode_seqJ (fun E' H' => Weak 42 G E' H' [(0, .d (.sl none (intsD p0))), (3, .vec 0 0), (4, iV x1), (5, bV s11)] [.vec 0 (intsD x2)]) ?_ ?_
          · have h := hss11
            clear hss11
            refine ACode_seq (ACode_region ?_)
            refine AOps_q 6 _ rfl rfl rfl (QOp_assign _ _ rfl rfl) ?_
            refine AOps_nil ?_
            refine ACode_block ?_
            refine ACode_loopW (fun k1 E H => ∃ (x4 : Bool) (x5 : Int), E = [(0, .d (.sl none (intsD p0))), (3, .vec 0 0), (4, iV x1), (5, bV x4), (6, iV x5)] ∧ H = [.vec 0 (intsD x2)] ∧ spec_l10Each_l1 p0 x1 x2 k1 x4 x5 = some s11) k _ _ (Weak_keep 0 hm [0, 3, 4, 5, 6] [0] _ _ rfl rfl rfl) ⟨_, _, rfl, rfl, h⟩ ?_
            clear h
            rintro k1 E H ⟨x4, x5, rfl, rfl, h⟩
            cases k1 with
            | zero => cases (show (none : Option (Bool)) = some _ from h)
            | succ k1 =>
              rw [spec_l10Each_l1] at h
              refine ACode_seq ?_
              refine ACode_seq (ACode_region ?_)
              refine AOps_q 14 _ rfl rfl rfl (QOp_move _ _ rfl rfl) ?_
              refine AOps_q 15 _ rfl rfl rfl (QOp_move _ _ rfl rfl) ?_
              refine AOps_q 16 _ rfl rfl rfl (QOp_len_vec _ _ _ _ _ _ _ _ (intsD_length _) rfl rfl rfl rfl Try.underlying38 rfl rfl) ?_
              refine AOps_q 17 _ rfl rfl rfl (QOp_lss _ _ _ _ _ _ _ rfl rfl rfl) ?_
              refine AOps_nil ?_
              refine ACode_cond _ rfl (fun hb6 => ?_) (fun hb6 => ?_)
              · have h := iteT hb6 h
                refine ACode_skip ?_
                obtain ⟨s10, hss10, hks10⟩ := bindO h
                clear h
                refine ACode_seqJ (fun E' H' => Weak 42 G E' H' [(0, .d (.sl none (intsD p0))), (3, .vec 0 0), (4, iV x1), (5, bV s10), (6, iV x5)] [.vec 0 (intsD x2)]) ?_ ?_
                · have h := hss10
                  clear hss10
                  refine ACode_block ?_
                  refine (ACode_quiet mixed (by kernel_rfl) ?_)
                  refine AQ_q 20 _ rfl rfl rfl (QOp_move _ _ rfl rfl) ?_
                  refine AQ_q 21 _ rfl rfl rfl (QOp_move _ _ rfl rfl) ?_
                  refine AQ_case 21 _ rfl (fun hb7 => ?_) (fun hb7 => ?_)
                  · have h := iteT hb7 h
                    refine AQ_skip 22 rfl rfl rfl ?_
                    refine AQ_skip 23 rfl rfl rfl ?_
                    refine AQ_skip 24 rfl rfl rfl ?_
                    refine AQ_skip 25 rfl rfl rfl ?_
                    refine AQ_skip 26 rfl rfl rfl ?_
                    refine AQ_skip 27 rfl rfl rfl ?_
                    refine AQ_skip 28 rfl rfl rfl ?_
                    refine AQ_skip 29 rfl rfl rfl ?_
                    refine AQ_skip 30 rfl rfl rfl ?_
                    refine AQ_q 31 _ rfl rfl rfl (QOp_pick_t _ _ _ _ rfl rfl rfl) ?_
                    refine AQ_q 5 _ rfl rfl rfl (QOp_assign _ _ rfl rfl) ?_
                    refine AQ_nil ?_
                    cases h
                    exact Weak_keep 0 hm [0, 3, 4, 5, 6] [0] _ _ rfl rfl rfl
                  · have h := iteF hb7 h
                    refine AQ_q 22 _ rfl rfl rfl (QOp_move _ _ rfl rfl) ?_
                    refine AQ_q 23 _ rfl rfl rfl (QOp_move _ _ rfl rfl) ?_
                    obtain ⟨hc8, h⟩ := guardO h
                    refine AQ_q 24 _ rfl rfl rfl (QOp_indexAddr_vec _ _ _ _ _ _ _ _ _ rfl Try.underlying38 Try.sizeOf2 hc8.1 (by rw [intsD_length]; exact hc8.2) rfl rfl rfl) ?_
                    refine AQ_q 25 _ rfl rfl rfl (QOp_load_eptr _ _ _ _ _ _ _ rfl Try.isAgg2 rfl rfl (intsD_get _ _ 0 (by omega))) ?_
                    refine AQ_q 26 _ rfl rfl rfl (QOp_move _ _ rfl rfl) ?_
                    refine AQ_q 27 _ rfl rfl rfl (QOp_move _ _ rfl rfl) ?_
                    obtain ⟨hc9, h⟩ := guardO h
                    refine AQ_q 28 _ rfl rfl rfl (QOp_indexAddr_sl _ _ _ _ _ _ _ _ rfl Try.underlying38 Try.sizeOf2 hc9.1 (by rw [intsD_length]; exact hc9.2) rfl rfl) ?_
                    refine AQ_q 29 _ rfl rfl rfl (QOp_load_pv _ _ _ _ _ rfl Try.isAgg2 rfl (intsD_get _ _ 0 (by omega))) ?_
                    refine AQ_q 30 _ rfl rfl rfl (QOp_eql _ _ _ _ _ _ _ rfl rfl rfl) ?_
                    refine AQ_q 31 _ rfl rfl rfl (QOp_pick_f _ _ _ _ rfl rfl rfl) ?_
                    refine AQ_q 5 _ rfl rfl rfl (QOp_assign _ _ rfl rfl) ?_
                    refine AQ_nil ?_
                    cases h
                    exact Weak_keep 0 hm [0, 3, 4, 5, 6] [0] _ _ rfl rfl rfl
                intro E' H' hw
                refine ACode_weak hw ?_
                have h := hks10
                refine (ACode_region ?_)
                refine AOps_q 18 _ rfl rfl rfl (QOp_move _ _ rfl rfl) ?_
                refine AOps_q 19 _ rfl rfl rfl (QOp_add _ _ _ _ _ _ _ rfl rfl rfl) ?_
                refine AOps_q 6 _ rfl rfl rfl (QOp_assign _ _ rfl rfl) ?_
                refine AOps_nil ?_
                exact ⟨k1, _, _, Nat.lt_succ_self _, Weak_keep 0 hm [0, 3, 4, 5, 6] [0] _ _ rfl rfl rfl, _, _, rfl, rfl, h⟩
              · have h := iteF hb6 h
                refine ACode_exit ?_
                cases h
                exact Weak_keep 0 hm [0, 3, 4, 5] [0] _ _ rfl rfl rfl
          intro E' H' hw
          refine ACode_weak hw ?_
          have h := hks11
          refine ACode_seq (ACode_region ?_)
          refine AOps_q 32 _ rfl rfl rfl (QOp_move _ _ rfl rfl) ?_
          refine AOps_q 33 _ rfl rfl rfl (QOp_not _ _ _ rfl rfl) ?_
          refine AOps_nil ?_
          refine ACode_cond _ rfl (fun hb12 => ?_) (fun hb12 => ?_)
          · have h := iteT hb12 h
            refine (ACode_region ?_)
            refine AOps_q 34 _ rfl rfl rfl (QOp_move _ _ rfl rfl) ?_
            refine AOps_q 35 _ rfl rfl rfl (QOp_move _ _ rfl rfl) ?_
            refine AOps_q 36 _ rfl rfl rfl (QOp_move _ _ rfl rfl) ?_
            obtain ⟨hc13, h⟩ := guardO h
            refine AOps_q 37 _ rfl rfl rfl (QOp_indexAddr_sl _ _ _ _ _ _ _ _ rfl Try.underlying38 Try.sizeOf2 hc13.1 (by rw [intsD_length]; exact hc13.2) rfl rfl) ?_
            refine AOps_q 38 _ rfl rfl rfl (QOp_load_pv _ _ _ _ _ rfl Try.isAgg2 rfl (intsD_get _ _ 0 (by omega))) ?_
            refine AOps_buildSlice 39 _ _ _ [_] (intsD ([(p0.getD x1.toNat 0)])) _ rfl rfl rfl rfl rfl (by decide) Try.underlying38 Try.sizeOf2 (zero_of Try.typeInfo2 rfl) rfl rfl (intsD_one _) ?_
            obtain ⟨hc14, h⟩ := guardO h
            refine AOps_append 40 _ _ _ _ _ _ _ _ _ _ _ _ rfl rfl rfl rfl rfl rfl rfl Try.underlying38 Try.type2 rfl rfl rfl (by decide) rfl rfl rfl rfl (intsD_one _) (by rw [intsD_length, intsD_length]; exact hc14) ?_
            rw [intsD_app]
            refine AOps_q 3 _ rfl rfl rfl (QOp_assign _ _ rfl rfl) ?_
            refine AOps_nil ?_
            cases h
            exact Weak_trans (Weak_keep 0 hm [0, 3, 4] [0] _ _ rfl rfl rfl) (Weak_reset 0 hm hz [0, 3, 4] _ _ rfl rfl)
          · have h := iteF hb12 h
            refine ACode_skip ?_
            cases h
            exact Weak_keep 0 hm [0, 3, 4] [0] _ _ rfl rfl rfl
        intro E' H' hw
        refine ACode_weak hw ?_
        have h := hks15
        refine (ACode_region ?_)
        refine AOps_q 12 _ rfl rfl rfl (QOp_move _ _ rfl rfl) ?_
        refine AOps_q 13 _ rfl rfl rfl (QOp_add _ _ _ _ _ _ _ rfl rfl rfl) ?_
        refine AOps_q 4 _ rfl rfl rfl (QOp_assign _ _ rfl rfl) ?_
        refine AOps_nil ?_
        exact ⟨k0, _, _, Nat.lt_succ_self _, Weak_keep 0 hm [0, 3, 4] [0] _ _ rfl rfl rfl, _, _, rfl, rfl, h⟩
      · have h := iteF hb3 h
        refine ACode_exit ?_
        cases h
        exact Weak_keep 0 hm [3] [0] _ _ rfl rfl rfl
  intro E' H' hw
  refine ACode_weak hw ?_
  have h := hks16
  refine ACode_seq (ACode_region ?_)
  refine AOps_q 41 _ rfl rfl rfl (QOp_move _ _ rfl rfl) ?_
  refine AOps_q 2 _ rfl rfl rfl (QOp_assign _ _ rfl rfl) ?_
  refine AOps_nil ?_
  refine ACode_ret ?_
  cases h
  exact ⟨_, _, Weak_reset 0 hm hz [2] _ _ rfl rfl, _, _, [0], _, (.cons (ResV_tmp _ _ rfl) .nil), rfl, rfl, rfl, rfl, rfl⟩

-- loop.example/g01362/spec.LesserPart
def spec_LesserPart_l0 : Nat → Int → (List Int) → Option (List Int)
  | 0, _, _ => none
  | k0 + 1, x5, x6 => (if decide (x5 < (x6.length : Int)) then (if 0 ≤ x5 ∧ x5 < (x6.length : Int) then spec_LesserPart_l0 k0 (w64 (x5 + 1)) (x6.set x5.toNat (-1)) else none) else some x6)
def spec_LesserPart_l4 (k : Nat) (p0 : Col) (x16 : Int) (x18 : Int) (x21 : List Int) (x26 : Int) : Nat → Int → (List Int) → (List Int) → Option (List Int × List Int)
  | 0, _, _, _ => none
  | k4 + 1, x36, x37, x38 => (if decide (x36 < p0.k) then ((spec_l01Around k p0 x18 x36).bind fun r40 => (spec_l10Size k p0 x37 (bAnd .i64 (bShl .i64 (bShr .i64 (x21.getD x26.toNat 0) (IntKind.u64.wrap (w64 (x18 + 1)))) (IntKind.u64.wrap (w64 (x18 + 1)))) r40)).bind fun r41 => (if decide (x16 ≤ w64 (1 + r41.1)) then (if x38.length + ([bAnd .i64 (bShl .i64 (bShr .i64 (x21.getD x26.toNat 0) (IntKind.u64.wrap (w64 (x18 + 1)))) (IntKind.u64.wrap (w64 (x18 + 1)))) r40]).length ≤ 1099511627776 then some (r41.2, (x38 ++ ([bAnd .i64 (bShl .i64 (bShr .i64 (x21.getD x26.toNat 0) (IntKind.u64.wrap (w64 (x18 + 1)))) (IntKind.u64.wrap (w64 (x18 + 1)))) r40]))) else none) else some (r41.2, x38)) : Option (List Int × List Int)).bind fun s44 => spec_LesserPart_l4 k p0 x16 x18 x21 x26 k4 (w64 (x36 + 1)) s44.1 s44.2 else some (x37, x38))
def spec_LesserPart_l3 (k : Nat) (p0 : Col) (x16 : Int) (x18 : Int) (x21 : List Int) : Nat → Int → (List Int) → (List Int) → Option (List Int × List Int)
  | 0, _, _, _ => none
  | k3 + 1, x26, x27, x28 => (if decide (x26 < (x21.length : Int)) then ((if 0 ≤ x26 ∧ x26 < (x21.length : Int) then (if 0 ≤ IntKind.u64.wrap x18 then (if decide (bAnd .i64 (bShr .i64 (x21.getD x26.toNat 0) (IntKind.u64.wrap x18)) 1 = 0) then some (x27, x28) else (if 0 ≤ x26 ∧ x26 < (x21.length : Int) then (if 0 ≤ IntKind.u64.wrap (w64 (x18 + 1)) then (if 0 ≤ IntKind.u64.wrap (w64 (x18 + 1)) then spec_LesserPart_l4 k p0 x16 x18 x21 x26 k 0 x27 x28 else none) else none) else none)) else none) else none) : Option (List Int × List Int)).bind fun s45 => spec_LesserPart_l3 k p0 x16 x18 x21 k3 (w64 (x26 + 1)) s45.1 s45.2 else some (x27, x28))
def spec_LesserPart_l2 (k : Nat) (p0 : Col) : Nat → Int → Bool → Int → (List Int) → (List Int) → (List Int) → Option (Int × List Int × List Int × List Int)
  | 0, _, _, _, _, _, _ => none
  | k2 + 1, x16, x17, x18, x19, x20, x21 => (letO (if decide (x18 < p0.p) then !x17 else false) fun (s23 : Bool) => (if s23 then some (.inl ()) else (some (x16, x19, x20, x21)).bind fun rr => some (.inr rr)) : Option (Sum (Unit) (Int × List Int × List Int × List Int))).bind fun os25 => (match os25 with | .inl s25 => ((spec_LesserPart_l3 k p0 x16 x18 x21 k 0 x19 ([] : List Int) : Option (List Int × List Int)).bind fun s46 => (if decide (0 < (s46.2.length : Int)) then (if x20.length + ([x18]).length ≤ 1099511627776 then (spec_l10Each k s46.2).bind fun r49 => some (w64 (x16 - 1), true, s46.1, (x20 ++ ([x18])), r49) else none) else some (x16, x17, s46.1, x20, x21)) : Option (Int × Bool × List Int × List Int × List Int)).bind fun s50 => spec_LesserPart_l2 k p0 k2 s50.1 s50.2.1 (w64 (x18 + 1)) s50.2.2.1 s50.2.2.2.1 s50.2.2.2.2 | .inr rr => some rr)
def spec_LesserPart_l1 (k : Nat) (p0 : Col) : Nat → Int → (List Int) → (List Int) → (List Int) → Option (List Int)
  | 0, _, _, _, _ => none
  | k1 + 1, x11, x12, x13, x14 => (if decide (0 < x11) then (spec_LesserPart_l2 k p0 k x11 false 0 x12 x13 x14 : Option (Int × List Int × List Int × List Int)).bind fun s51 => spec_LesserPart_l1 k p0 k1 s51.1 s51.2.1 s51.2.2.1 s51.2.2.2 else some x13)
def spec_LesserPart (k : Nat) (p0 : Col) : Option (List Int × Int) :=
  (spec_l01Is k p0).bind fun r1 => (if !r1 then some ([], 1) else (if 0 ≤ IntKind.u64.wrap p0.p then (if 0 ≤ w64 ((w64 ((bShl .i64 1 (IntKind.u64.wrap p0.p)) - 1)) + 1) ∧ w64 ((w64 ((bShl .i64 1 (IntKind.u64.wrap p0.p)) - 1)) + 1) ≤ w64 ((w64 ((bShl .i64 1 (IntKind.u64.wrap p0.p)) - 1)) + 1) ∧ w64 ((w64 ((bShl .i64 1 (IntKind.u64.wrap p0.p)) - 1)) + 1) ≤ 1099511627776 then (spec_LesserPart_l0 k 0 (List.replicate (w64 ((w64 ((bShl .i64 1 (IntKind.u64.wrap p0.p)) - 1)) + 1)).toNat (0 : Int)) : Option (List Int)).bind fun s9 => (spec_l10Size k p0 s9 (w64 ((bShl .i64 1 (IntKind.u64.wrap p0.p)) - 1))).bind fun r10 => (spec_LesserPart_l1 k p0 k r10.1 r10.2 ([] : List Int) ([w64 ((bShl .i64 1 (IntKind.u64.wrap p0.p)) - 1)]) : Option (List Int)).bind fun s52 => some (s52, 0) else none) else none))
set_option maxRecDepth 100000 in
theorem spec_LesserPart_ac (k : Nat) (p0 : Col) (r : List Int × Int) (h : spec_LesserPart k p0 = some r) : AC Try.prog 36 [.d (.agg (colD p0))] [] (fun res H' => res = [.d (.sl none (intsD r.1)), iV r.2] ∧ H' = []) := by
  refine AC_of_body true Try.func36 rfl Try.ntmps36 (rvs := [.tmp 2, .tmp 3]) rfl rfl (fun G hG => ?_)
  have hm : G.H.length = 0 := by rw [hG]; rfl
  have hz : zeroG G.H = true := by rw [hG]; rfl
  unfold spec_LesserPart at h
  refine ACode_seq (ACode_region ?_)
  refine AOps_boxI 1 _ _ (.agg (colD p0)) (colD p0) rfl (colD_one _) rfl rfl rfl rfl rfl ?_
  refine AOps_q 2 _ rfl rfl rfl (QOp_assign _ _ rfl rfl) ?_
  refine AOps_q 3 _ rfl rfl rfl (QOp_assign _ _ rfl rfl) ?_
  refine AOps_nil ?_
  refine ACode_seq ?_
  refine ACode_seq (ACode_region ?_)
  refine AOps_q 17 _ rfl rfl rfl (QOp_loadN_pv _ _ _ _ _ _ rfl Try.isAgg24 Try.sizeOf24 rfl (colD_all _) (colD_length _)) ?_
  obtain ⟨r1, hr1, h⟩ := bindO h
  refine AOps_call [] 18 _ _ _ _ _ _ _ _ _ _ rfl rfl rfl rfl rfl rfl rfl Try.call67 rfl (nodupB_sound _ rfl) rfl rfl rfl (spec_l01Is_ac k p0 _ hr1) ?_
  rintro _ _ ⟨rfl, rfl⟩
  refine ⟨(fun _ h => nomatch h), (allc (trivial) (fun _ h => nomatch h)), AOps_as 18 (v' := bV r1) (H' := []) rfl rfl ?_⟩
  refine AOps_q 19 _ rfl rfl rfl (QOp_not _ _ _ rfl rfl) ?_
  refine AOps_nil ?_
  refine ACode_cond _ rfl (fun hb2 => ?_) (fun hb2 => ?_)
  · have h := iteT hb2 h
    refine ACode_seq (ACode_region ?_)
    refine AOps_q 2 _ rfl rfl rfl (QOp_assign _ _ rfl rfl) ?_
    refine AOps_q 3 _ rfl rfl rfl (QOp_assign _ _ rfl rfl) ?_
    refine AOps_nil ?_
    refine ACode_ret ?_
    cases h
    exact ⟨_, _, fun r a w h => ⟨r, h⟩, _, _, [], _, (.cons (ResV_tmp _ _ rfl) (.cons (ResV_tmp _ _ rfl) .nil)), rfl, rfl, rfl, rfl, rfl⟩
  · have h := iteF hb2 h
    refine ACode_skip ?_
    refine ACode_seq (ACode_region ?_)
    refine AOps_q 20 _ rfl rfl rfl (QOp_fieldAddr_pv _ _ _ _ _ 0 _ _ rfl Try.underlying24 rfl _ Try.sizeOf2 rfl rfl) ?_
    refine AOps_q 21 _ rfl rfl rfl (QOp_load_pv _ _ _ _ _ rfl Try.isAgg2 rfl rfl) ?_
    refine AOps_q 22 _ rfl rfl rfl (QOp_conv _ _ _ _ _ _ rfl rfl Try.underlying76 rfl) ?_
    obtain ⟨hc3, h⟩ := guardO h
    refine AOps_q 23 _ rfl rfl rfl (QOp_shl _ _ _ _ _ _ _ _ hc3 rfl rfl rfl) ?_
    refine AOps_q 24 _ rfl rfl rfl (QOp_sub _ _ _ _ _ _ _ rfl rfl rfl) ?_
    refine AOps_q 4 _ rfl rfl rfl (QOp_assign _ _ rfl rfl) ?_
    refine AOps_nil ?_
    refine ACode_seq (ACode_region ?_)
    refine AOps_q 25 _ rfl rfl rfl (QOp_move _ _ rfl rfl) ?_
    refine AOps_q 26 _ rfl rfl rfl (QOp_add _ _ _ _ _ _ _ rfl rfl rfl) ?_
    obtain ⟨hc4, h⟩ := guardO h
    refine AOps_makeSliceG intsD iD 0 (intsD_rep · _) 27 _ _ _ _ _ _ (w64 ((w64 ((bShl .i64 1 (IntKind.u64.wrap p0.p)) - 1)) + 1)) (w64 ((w64 ((bShl .i64 1 (IntKind.u64.wrap p0.p)) - 1)) + 1)) _ (.int .i64 0) rfl rfl rfl rfl rfl rfl Try.underlying38 Try.type2 rfl rfl (by decide) rfl rfl hc4.1 hc4.2.1 hc4.2.2 ?_
    refine AOps_q 5 _ rfl rfl rfl (QOp_assign _ _ rfl rfl) ?_
    refine AOps_nil ?_
    obtain ⟨s9, hss9, hks9⟩ := bindO h
    clear h
    refine ACode_seqJ (fun E' H' => Weak 119 G E' H' [(1, .d (.pv (colD p0) 0)), (4, iV (w64 ((bShl .i64 1 (IntKind.u64.wrap p0.p)) - 1))), (5, .vec 0 0)] [.vec 0 (intsD s9)]) ?_ ?_
    · have h := hss9
      clear hss9
      refine ACode_seq (ACode_region ?_)
      refine AOps_q 6 _ rfl rfl rfl (QOp_assign _ _ rfl rfl) ?_
      refine AOps_nil ?_
      refine ACode_block ?_
      refine ACode_loopW (fun k0 E H => ∃ (x5 : Int) (x6 : List Int), E = [(1, .d (.pv (colD p0) 0)), (4, iV (w64 ((bShl .i64 1 (IntKind.u64.wrap p0.p)) - 1))), (5, .vec 0 0), (6, iV x5)] ∧ H = [.vec 0 (intsD x6)] ∧ spec_LesserPart_l0 k0 x5 x6 = some s9) k _ _ (Weak_keep 0 hm [1, 4, 5, 6] [0] _ _ rfl rfl rfl) ⟨_, _, rfl, rfl, h⟩ ?_
      clear h
      rintro k0 E H ⟨x5, x6, rfl, rfl, h⟩
      cases k0 with
      | zero => cases (show (none : Option (List Int)) = some _ from h)
      | succ k0 =>
        rw [spec_LesserPart_l0] at h
        refine ACode_seq ?_
        refine ACode_seq (ACode_region ?_)
        refine AOps_q 28 _ rfl rfl rfl (QOp_move _ _ rfl rfl) ?_
        refine AOps_q 29 _ rfl rfl rfl (QOp_move _ _ rfl rfl) ?_
        refine AOps_q 30 _ rfl rfl rfl (QOp_len_vec _ _ _ _ _ _ _ _ (intsD_length _) rfl rfl rfl rfl Try.underlying38 rfl rfl) ?_
        refine AOps_q 31 _ rfl rfl rfl (QOp_lss _ _ _ _ _ _ _ rfl rfl rfl) ?_
        refine AOps_nil ?_
        refine ACode_cond _ rfl (fun hb7 => ?_) (fun hb7 => ?_)
        · have h := iteT hb7 h
          refine ACode_skip ?_
          refine ACode_seq ?_
          refine ACode_block ?_
          refine (ACode_region ?_)
          refine AOps_q 34 _ rfl rfl rfl (QOp_move _ _ rfl rfl) ?_
          refine AOps_q 35 _ rfl rfl rfl (QOp_move _ _ rfl rfl) ?_
          obtain ⟨hc8, h⟩ := guardO h
          refine AOps_q 36 _ rfl rfl rfl (QOp_indexAddr_vec _ _ _ _ _ _ _ _ _ rfl Try.underlying38 Try.sizeOf2 hc8.1 (by rw [intsD_length]; exact hc8.2) rfl rfl rfl) ?_
          refine AOps_store_eptr _ _ _ _ _ _ (intsD x6) _ rfl rfl rfl rfl rfl rfl rfl Try.sizeOf2 (by rw [intsD_length]; omega) ?_
          rw [intsD_set]
          refine AOps_nil ?_
          refine (ACode_region ?_)
          refine AOps_q 32 _ rfl rfl rfl (QOp_move _ _ rfl rfl) ?_
          refine AOps_q 33 _ rfl rfl rfl (QOp_add _ _ _ _ _ _ _ rfl rfl rfl) ?_
          refine AOps_q 6 _ rfl rfl rfl (QOp_assign _ _ rfl rfl) ?_
          refine AOps_nil ?_
          exact ⟨k0, _, _, Nat.lt_succ_self _, Weak_keep 0 hm [1, 4, 5, 6] [0] _ _ rfl rfl rfl, _, _, rfl, rfl, h⟩
        · have h := iteF hb7 h
          refine ACode_exit ?_
          cases h
          exact Weak_keep 0 hm [1, 4, 5] [0] _ _ rfl rfl rfl
    intro E' H' hw
    refine ACode_weak hw ?_
    have h := hks9
    refine ACode_seq (ACode_region ?_)
    refine AOps_q 37 _ rfl rfl rfl (QOp_loadN_pv _ _ _ _ _ _ rfl Try.isAgg24 Try.sizeOf24 rfl (colD_all _) (colD_length _)) ?_
    refine AOps_q 38 _ rfl rfl rfl (QOp_move _ _ rfl rfl) ?_
    refine AOps_q 39 _ rfl rfl rfl (QOp_move _ _ rfl rfl) ?_
    obtain ⟨r10, hr10, h⟩ := bindO h
    refine AOps_call [0] 40 _ _ _ _ _ _ _ _ _ _ rfl rfl rfl rfl rfl rfl rfl Try.call76 rfl (nodupB_sound _ rfl) rfl rfl rfl (spec_l10Size_ac k p0 s9 (w64 ((bShl .i64 1 (IntKind.u64.wrap p0.p)) - 1)) _ hr10) ?_
    rintro _ _ ⟨rfl, rfl⟩
    refine ⟨(allc (fun _ _ => trivial) (fun _ h => nomatch h)), (allc (trivial) (fun _ h => nomatch h)), AOps_as 40 (v' := iV r10.1) (H' := [.vec 0 (intsD r10.2)]) rfl rfl ?_⟩
    refine AOps_buildSlice 41 _ _ _ [] (intsD ([] : List Int)) _ rfl rfl rfl rfl rfl (by decide) Try.underlying38 Try.sizeOf2 (zero_of Try.typeInfo2 rfl) rfl rfl (intsD_one _) ?_
    refine AOps_q 7 _ rfl rfl rfl (QOp_assign _ _ rfl rfl) ?_
    refine AOps_q 8 _ rfl rfl rfl (QOp_assign _ _ rfl rfl) ?_
    refine AOps_nil ?_
    refine ACode_seq (ACode_region ?_)
    refine AOps_q 42 _ rfl rfl rfl (QOp_move _ _ rfl rfl) ?_
    refine AOps_buildSlice 43 _ _ _ [_] (intsD ([w64 ((bShl .i64 1 (IntKind.u64.wrap p0.p)) - 1)])) _ rfl rfl rfl rfl rfl (by decide) Try.underlying38 Try.sizeOf2 (zero_of Try.typeInfo2 rfl) rfl rfl (intsD_one _) ?_
    refine AOps_q 9 _ rfl rfl rfl (QOp_assign _ _ rfl rfl) ?_
    refine AOps_nil ?_
    obtain ⟨s52, hss52, hks52⟩ := bindO h
    clear h
    refine ACode_seqJ (fun E' H' => Weak 119 G E' H' [(8, .vec 0 0)] [.vec 0 (intsD s52)]) ?_ ?_
    · have h := hss52
      clear hss52
      refine ACode_block ?_
      refine ACode_loopW (fun k1 E H => ∃ (x11 : Int) (x12 : List Int) (x13 : List Int) (x14 : List Int), E = [(1, .d (.pv (colD p0) 0)), (5, .vec 0 0), (7, iV x11), (8, .vec 1 0), (9, .vec 2 0)] ∧ H = [.vec 0 (intsD x12), .vec 0 (intsD x13), .vec 0 (intsD x14)] ∧ spec_LesserPart_l1 k p0 k1 x11 x12 x13 x14 = some s52) k _ _ (Weak_keep 0 hm [1, 5, 7, 8, 9] [0, 1, 2] _ _ rfl rfl rfl) ⟨_, _, _, _, rfl, rfl, h⟩ ?_
      clear h
      rintro k1 E H ⟨x11, x12, x13, x14, rfl, rfl, h⟩
      cases k1 with
      | zero => cases (show (none : Option (List Int)) = some _ from h)
      | succ k1 =>
        rw [spec_LesserPart_l1] at h
        refine ACode_seq ?_
        refine ACode_seq (ACode_region ?_)
        refine AOps_q 44 _ rfl rfl rfl (QOp_move _ _ rfl rfl) ?_
        refine AOps_q 45 _ rfl rfl rfl (QOp_gtr _ _ _ _ _ _ _ rfl rfl rfl) ?_
        refine AOps_nil ?_
        refine ACode_cond _ rfl (fun hb15 => ?_) (fun hb15 => ?_)
        · have h := iteT hb15 h
          refine ACode_skip ?_
          obtain ⟨s51, hss51, hks51⟩ := bindO h
          clear h
          refine ACode_tailJ (fun E' H' => Weak 119 G E' H' [(1, .d (.pv (colD p0) 0)), (5, .vec 0 0), (7, iV s51.1), (8, .vec 1 0), (9, .vec 2 0)] [.vec 0 (intsD s51.2.1), .vec 0 (intsD s51.2.2.1), .vec 0 (intsD s51.2.2.2)]) ?_ ?_
          · have h := hss51
            clear hss51
            refine ACode_block ?_
            refine ACode_seq (ACode_region ?_)
            refine AOps_q 10 _ rfl rfl rfl (QOp_assign _ _ rfl rfl) ?_
            refine AOps_nil ?_
            refine ACode_seq (ACode_region ?_)
            refine AOps_q 11 _ rfl rfl rfl (QOp_assign _ _ rfl rfl) ?_
            refine AOps_nil ?_
            refine ACode_block ?_
            refine ACode_loopW (fun k2 E H => ∃ (x16 : Int) (x17 : Bool) (x18 : Int) (x19 : List Int) (x20 : List Int) (x21 : List Int), E = [(1, .d (.pv (colD p0) 0)), (5, .vec 0 0), (7, iV x16), (8, .vec 1 0), (9, .vec 2 0), (10, bV x17), (11, iV x18)] ∧ H = [.vec 0 (intsD x19), .vec 0 (intsD x20), .vec 0 (intsD x21)] ∧ spec_LesserPart_l2 k p0 k2 x16 x17 x18 x19 x20 x21 = some s51) k _ _ (Weak_keep 0 hm [1, 5, 7, 8, 9, 10, 11] [0, 1, 2] _ _ rfl rfl rfl) ⟨_, _, _, _, _, _, rfl, rfl, h⟩ ?_
            clear h
            rintro k2 E H ⟨x16, x17, x18, x19, x20, x21, rfl, rfl, h⟩
            cases k2 with
            | zero => cases (show (none : Option (Int × List Int × List Int × List Int)) = some _ from h)
            | succ k2 =>
              rw [spec_LesserPart_l2] at h
              obtain ⟨os25, hss25, hks25⟩ := bindO h
              clear h
              refine ACode_seqJ (fun E' H' => ∃ s25 : Unit, os25 = .inl s25 ∧ Weak 119 G E' H' [(1, .d (.pv (colD p0) 0)), (5, .vec 0 0), (7, iV x16), (8, .vec 1 0), (9, .vec 2 0), (10, bV x17), (11, iV x18)] [.vec 0 (intsD x19), .vec 0 (intsD x20), .vec 0 (intsD x21)]) ?_ ?_
              · have h := hss25
                clear hss25
                obtain ⟨s23, hss23, hks23⟩ := letS h
                clear h
                refine ACode_seqJ (fun E' H' => Weak 119 G E' H' [(1, .d (.pv (colD p0) 0)), (5, .vec 0 0), (7, iV x16), (8, .vec 1 0), (9, .vec 2 0), (10, bV x17), (11, iV x18), (53, bV s23)] [.vec 0 (intsD x19), .vec 0 (intsD x20), .vec 0 (intsD x21)]) ?_ ?_
                · have h := hss23
                  clear hss23
                  refine (ACode_region ?_)
                  refine AOps_q 46 _ rfl rfl rfl (QOp_move _ _ rfl rfl) ?_
                  refine AOps_q 47 _ rfl rfl rfl (QOp_fieldAddr_pv _ _ _ _ _ 0 _ _ rfl Try.underlying24 rfl _ Try.sizeOf2 rfl rfl) ?_
                  refine AOps_q 48 _ rfl rfl rfl (QOp_load_pv _ _ _ _ _ rfl Try.isAgg2 rfl rfl) ?_
                  refine AOps_q 49 _ rfl rfl rfl (QOp_lss _ _ _ _ _ _ _ rfl rfl rfl) ?_
                  refine AOps_q 50 _ rfl rfl rfl (QOp_move _ _ rfl rfl) ?_
                  refine AOps_case 50 _ rfl (fun hb22 => ?_) (fun hb22 => ?_)
                  · have h := iteT hb22 h
                    refine AOps_q 51 _ rfl rfl rfl (QOp_move _ _ rfl rfl) ?_
                    refine AOps_q 52 _ rfl rfl rfl (QOp_not _ _ _ rfl rfl) ?_
                    refine AOps_q 53 _ rfl rfl rfl (QOp_pick_t _ _ _ _ rfl rfl rfl) ?_
                    refine AOps_nil ?_
                    cases h
                    exact Weak_keep 0 hm [1, 5, 7, 8, 9, 10, 11, 53] [0, 1, 2] _ _ rfl rfl rfl
                  · have h := iteF hb22 h
                    refine AOps_skip 51 rfl rfl rfl ?_
                    refine AOps_skip 52 rfl rfl rfl ?_
                    refine AOps_q 53 _ rfl rfl rfl (QOp_pick_f _ _ _ _ rfl rfl rfl) ?_
                    refine AOps_nil ?_
                    cases h
                    exact Weak_keep 0 hm [1, 5, 7, 8, 9, 10, 11, 53] [0, 1, 2] _ _ rfl rfl rfl
                intro E' H' hw
                refine ACode_weak hw ?_
                have h := hks23
                refine ACode_cond _ rfl (fun hb24 => ?_) (fun hb24 => ?_)
                · have h := iteT hb24 h
                  refine ACode_skip ?_
                  cases h
                  exact ⟨_, rfl, Weak_keep 0 hm [1, 5, 7, 8, 9, 10, 11] [0, 1, 2] _ _ rfl rfl rfl⟩
                · have h := iteF hb24 h
                  refine ACode_exit ?_
                  obtain ⟨rr, hz53, h2⟩ := bindO h
                  obtain rfl := Option.some.inj h2
                  obtain rfl := Option.some.inj (show some rr = some _ from hks25)
                  have h := hz53
                  cases h
                  exact Weak_keep 0 hm [1, 5, 7, 8, 9] [0, 1, 2] _ _ rfl rfl rfl
              rintro E' H' ⟨s25, rfl, hw⟩
              refine ACode_weak hw ?_
              have h := hks25
              obtain ⟨s50, hss50, hks50⟩ := bindO h
              clear h
              refine ACode_seqJ (fun E' H' => Weak 119 G E' H' [(1, .d (.pv (colD p0) 0)), (5, .vec 0 0), (7, iV s50.1), (8, .vec 1 0), (9, .vec 2 0), (10, bV s50.2.1), (11, iV x18)] [.vec 0 (intsD s50.2.2.1), .vec 0 (intsD s50.2.2.2.1), .vec 0 (intsD s50.2.2.2.2)]) ?_ ?_
              · have h := hss50
                clear hss50
                refine ACode_block ?_
                refine ACode_seq (ACode_region ?_)
                refine AOps_buildSlice 56 _ _ _ [] (intsD ([] : List Int)) _ rfl rfl rfl rfl rfl (by decide) Try.underlying38 Try.sizeOf2 (zero_of Try.typeInfo2 rfl) rfl rfl (intsD_one _) ?_
                refine AOps_q 12 _ rfl rfl rfl (QOp_assign _ _ rfl rfl) ?_
                refine AOps_nil ?_
                obtain ⟨s46, hss46, hks46⟩ := bindO h
                clear h
                refine ACode_seqJ (fun E' H' => Weak 119 G E' H' [(1, .d (.pv (colD p0) 0)), (5, .vec 0 0), (7, iV x16), (8, .vec 1 0), (9, .vec 2 0), (10, bV x17), (11, iV x18), (12, .vec 3 0)] [.vec 0 (intsD s46.1), .vec 0 (intsD x20), .vec 0 (intsD x21), .vec 0 (intsD s46.2)]) ?_ ?_
                · have h := hss46
                  clear hss46
                  refine ACode_seq (ACode_region ?_)
                  refine AOps_q 13 _ rfl rfl rfl (QOp_assign _ _ rfl rfl) ?_
                  refine AOps_nil ?_
                  refine ACode_block ?_
                  refine ACode_loopW (fun k3 E H => ∃ (x26 : Int) (x27 : List Int) (x28 : List Int), E = [(1, .d (.pv (colD p0) 0)), (5, .vec 0 0), (7, iV x16), (8, .vec 1 0), (9, .vec 2 0), (10, bV x17), (11, iV x18), (12, .vec 3 0), (13, iV x26)] ∧ H = [.vec 0 (intsD x27), .vec 0 (intsD x20), .vec 0 (intsD x21), .vec 0 (intsD x28)] ∧ spec_LesserPart_l3 k p0 x16 x18 x21 k3 x26 x27 x28 = some s46) k _ _ (Weak_keep 0 hm [1, 5, 7, 8, 9, 10, 11, 12, 13] [0, 1, 2, 3] _ _ rfl rfl rfl) ⟨_, _, _, rfl, rfl, h⟩ ?_
                  clear h
                  rintro k3 E H ⟨x26, x27, x28, rfl, rfl, h⟩
                  cases k3 with
                  | zero => cases (show (none : Option (List Int × List Int)) = some _ from h)
                  | succ k3 =>
                    rw [spec_LesserPart_l3] at h
                    refine ACode_seq ?_
                    refine ACode_seq (ACode_region ?_)
                    refine AOps_q 57 _ rfl rfl rfl (QOp_move _ _ rfl rfl) ?_
                    refine AOps_q 58 _ rfl rfl rfl (QOp_move _ _ rfl rfl) ?_
                    refine AOps_q 59 _ rfl rfl rfl (QOp_len_vec _ _ _ _ _ _ _ _ (intsD_length _) rfl rfl rfl rfl Try.underlying38 rfl rfl) ?_
                    refine AOps_q 60 _ rfl rfl rfl (QOp_lss _ _ _ _ _ _ _ rfl rfl rfl) ?_
                    refine AOps_nil ?_
                    refine ACode_cond _ rfl (fun hb29 => ?_) (fun hb29 => ?_)
                    · have h := iteT hb29 h
                      refine ACode_skip ?_
                      obtain ⟨s45, hss45, hks45⟩ := bindO h
                      clear h
                      refine ACode_seqJ (fun E' H' => Weak 119 G E' H' [(1, .d (.pv (colD p0) 0)), (5, .vec 0 0), (7, iV x16), (8, .vec 1 0), (9, .vec 2 0), (10, bV x17), (11, iV x18), (12, .vec 3 0), (13, iV x26)] [.vec 0 (intsD s45.1), .vec 0 (intsD x20), .vec 0 (intsD x21), .vec 0 (intsD s45.2)]) ?_ ?_
                      · have h := hss45
                        clear hss45
                        refine ACode_block ?_
                        refine ACode_seq ?_
                        refine ACode_seq (ACode_region ?_)
                        refine AOps_q 63 _ rfl rfl rfl (QOp_move _ _ rfl rfl) ?_
                        refine AOps_q 64 _ rfl rfl rfl (QOp_move _ _ rfl rfl) ?_
                        obtain ⟨hc30, h⟩ := guardO h
                        refine AOps_q 65 _ rfl rfl rfl (QOp_indexAddr_vec _ _ _ _ _ _ _ _ _ rfl Try.underlying38 Try.sizeOf2 hc30.1 (by rw [intsD_length]; exact hc30.2) rfl rfl rfl) ?_
                        refine AOps_q 66 _ rfl rfl rfl (QOp_load_eptr _ _ _ _ _ _ _ rfl Try.isAgg2 rfl rfl (intsD_get _ _ 0 (by omega))) ?_
                        refine AOps_q 67 _ rfl rfl rfl (QOp_move _ _ rfl rfl) ?_
                        refine AOps_q 68 _ rfl rfl rfl (QOp_conv _ _ _ _ _ _ rfl rfl Try.underlying76 rfl) ?_
                        obtain ⟨hc31, h⟩ := guardO h
                        refine AOps_q 69 _ rfl rfl rfl (QOp_shr _ _ _ _ _ _ _ _ hc31 rfl rfl rfl) ?_
                        refine AOps_q 70 _ rfl rfl rfl (QOp_and _ _ _ _ _ _ _ rfl rfl rfl) ?_
                        refine AOps_q 71 _ rfl rfl rfl (QOp_eql _ _ _ _ _ _ _ rfl rfl rfl) ?_
                        refine AOps_nil ?_
                        refine ACode_cond _ rfl (fun hb32 => ?_) (fun hb32 => ?_)
                        · have h := iteT hb32 h
                          refine ACode_exit ?_
                          cases h
                          exact Weak_keep 0 hm [1, 5, 7, 8, 9, 10, 11, 12, 13] [0, 1, 2, 3] _ _ rfl rfl rfl
                        · have h := iteF hb32 h
                          refine ACode_skip ?_
                          refine ACode_seq (ACode_region ?_)
                          refine AOps_q 72 _ rfl rfl rfl (QOp_move _ _ rfl rfl) ?_
                          refine AOps_q 73 _ rfl rfl rfl (QOp_move _ _ rfl rfl) ?_
                          obtain ⟨hc33, h⟩ := guardO h
                          refine AOps_q 74 _ rfl rfl rfl (QOp_indexAddr_vec _ _ _ _ _ _ _ _ _ rfl Try.underlying38 Try.sizeOf2 hc33.1 (by rw [intsD_length]; exact hc33.2) rfl rfl rfl) ?_
                          refine AOps_q 75 _ rfl rfl rfl (QOp_load_eptr _ _ _ _ _ _ _ rfl Try.isAgg2 rfl rfl (intsD_get _ _ 0 (by omega))) ?_
                          refine AOps_q 76 _ rfl rfl rfl (QOp_move _ _ rfl rfl) ?_
                          refine AOps_q 77 _ rfl rfl rfl (QOp_add _ _ _ _ _ _ _ rfl rfl rfl) ?_
                          refine AOps_q 78 _ rfl rfl rfl (QOp_conv _ _ _ _ _ _ rfl rfl Try.underlying76 rfl) ?_
                          obtain ⟨hc34, h⟩ := guardO h
                          refine AOps_q 79 _ rfl rfl rfl (QOp_shr _ _ _ _ _ _ _ _ hc34 rfl rfl rfl) ?_
                          refine AOps_q 80 _ rfl rfl rfl (QOp_move _ _ rfl rfl) ?_
                          refine AOps_q 81 _ rfl rfl rfl (QOp_add _ _ _ _ _ _ _ rfl rfl rfl) ?_
                          refine AOps_q 82 _ rfl rfl rfl (QOp_conv _ _ _ _ _ _ rfl rfl Try.underlying76 rfl) ?_
                          obtain ⟨hc35, h⟩ := guardO h
                          refine AOps_q 83 _ rfl rfl rfl (QOp_shl _ _ _ _ _ _ _ _ hc35 rfl rfl rfl) ?_
                          refine AOps_q 14 _ rfl rfl rfl (QOp_assign _ _ rfl rfl) ?_
                          refine AOps_nil ?_
                          refine ACode_seq (ACode_region ?_)
                          refine AOps_q 15 _ rfl rfl rfl (QOp_assign _ _ rfl rfl) ?_
                          refine AOps_nil ?_
                          refine ACode_block ?_
                          refine ACode_loopW (fun k4 E H => ∃ (x36 : Int) (x37 : List Int) (x38 : List Int), E = [(1, .d (.pv (colD p0) 0)), (5, .vec 0 0), (7, iV x16), (8, .vec 1 0), (9, .vec 2 0), (10, bV x17), (11, iV x18), (12, .vec 3 0), (13, iV x26), (14, iV (bShl .i64 (bShr .i64 (x21.getD x26.toNat 0) (IntKind.u64.wrap (w64 (x18 + 1)))) (IntKind.u64.wrap (w64 (x18 + 1))))), (15, iV x36)] ∧ H = [.vec 0 (intsD x37), .vec 0 (intsD x20), .vec 0 (intsD x21), .vec 0 (intsD x38)] ∧ spec_LesserPart_l4 k p0 x16 x18 x21 x26 k4 x36 x37 x38 = some s45) k _ _ (Weak_keep 0 hm [1, 5, 7, 8, 9, 10, 11, 12, 13, 14, 15] [0, 1, 2, 3] _ _ rfl rfl rfl) ⟨_, _, _, rfl, rfl, h⟩ ?_
                          clear h
                          rintro k4 E H ⟨x36, x37, x38, rfl, rfl, h⟩
                          cases k4 with
                          | zero => cases (show (none : Option (List Int × List Int)) = some _ from h)
                          | succ k4 =>
                            rw [spec_LesserPart_l4] at h
                            refine ACode_seq ?_
                            refine ACode_seq (ACode_region ?_)
                            refine AOps_q 84 _ rfl rfl rfl (QOp_move _ _ rfl rfl) ?_
                            refine AOps_q 85 _ rfl rfl rfl (QOp_fieldAddr_pv _ _ _ _ _ 1 _ _ rfl Try.underlying24 rfl _ Try.sizeOf2 rfl rfl) ?_
                            refine AOps_q 86 _ rfl rfl rfl (QOp_load_pv _ _ _ _ _ rfl Try.isAgg2 rfl rfl) ?_
                            refine AOps_q 87 _ rfl rfl rfl (QOp_lss _ _ _ _ _ _ _ rfl rfl rfl) ?_
                            refine AOps_nil ?_
                            refine ACode_cond _ rfl (fun hb39 => ?_) (fun hb39 => ?_)
                            · have h := iteT hb39 h
                              refine ACode_skip ?_
                              obtain ⟨s44, hss44, hks44⟩ := bindO h
                              clear h
                              refine ACode_seqJ (fun E' H' => Weak 119 G E' H' [(1, .d (.pv (colD p0) 0)), (5, .vec 0 0), (7, iV x16), (8, .vec 1 0), (9, .vec 2 0), (10, bV x17), (11, iV x18), (12, .vec 3 0), (13, iV x26), (14, iV (bShl .i64 (bShr .i64 (x21.getD x26.toNat 0) (IntKind.u64.wrap (w64 (x18 + 1)))) (IntKind.u64.wrap (w64 (x18 + 1))))), (15, iV x36)] [.vec 0 (intsD s44.1), .vec 0 (intsD x20), .vec 0 (intsD x21), .vec 0 (intsD s44.2)]) ?_ ?_
                              · have h := hss44
                                clear hss44
                                refine ACode_block ?_
                                refine ACode_seq (ACode_region ?_)
                                refine AOps_q 90 _ rfl rfl rfl (QOp_move _ _ rfl rfl) ?_
                                refine AOps_q 91 _ rfl rfl rfl (QOp_loadN_pv _ _ _ _ _ _ rfl Try.isAgg24 Try.sizeOf24 rfl (colD_all _) (colD_length _)) ?_
                                refine AOps_q 92 _ rfl rfl rfl (QOp_move _ _ rfl rfl) ?_
                                refine AOps_q 93 _ rfl rfl rfl (QOp_move _ _ rfl rfl) ?_
                                obtain ⟨r40, hr40, h⟩ := bindO h
                                refine AOps_call [] 94 _ _ _ _ _ _ _ _ _ _ rfl rfl rfl rfl rfl rfl rfl Try.call77 rfl (nodupB_sound _ rfl) rfl rfl rfl (spec_l01Around_ac k p0 x18 x36 _ hr40) ?_
                                rintro _ _ ⟨rfl, rfl⟩
                                refine ⟨(fun _ h => nomatch h), (allc (trivial) (fun _ h => nomatch h)), AOps_as 94 (v' := iV r40) (H' := [.vec 0 (intsD x37), .vec 0 (intsD x20), .vec 0 (intsD x21), .vec 0 (intsD x38)]) rfl rfl ?_⟩
                                refine AOps_q 95 _ rfl rfl rfl (QOp_and _ _ _ _ _ _ _ rfl rfl rfl) ?_
                                refine AOps_q 16 _ rfl rfl rfl (QOp_assign _ _ rfl rfl) ?_
                                refine AOps_nil ?_
                                refine ACode_seq (ACode_region ?_)
                                refine AOps_q 96 _ rfl rfl rfl (QOp_loadN_pv _ _ _ _ _ _ rfl Try.isAgg24 Try.sizeOf24 rfl (colD_all _) (colD_length _)) ?_
                                refine AOps_q 97 _ rfl rfl rfl (QOp_move _ _ rfl rfl) ?_
                                refine AOps_q 98 _ rfl rfl rfl (QOp_move _ _ rfl rfl) ?_
                                obtain ⟨r41, hr41, h⟩ := bindO h
                                refine AOps_call [0] 99 _ _ _ _ _ _ _ _ _ _ rfl rfl rfl rfl rfl rfl rfl Try.call76 rfl (nodupB_sound _ rfl) rfl rfl rfl (spec_l10Size_ac k p0 x37 (bAnd .i64 (bShl .i64 (bShr .i64 (x21.getD x26.toNat 0) (IntKind.u64.wrap (w64 (x18 + 1)))) (IntKind.u64.wrap (w64 (x18 + 1)))) r40) _ hr41) ?_
                                rintro _ _ ⟨rfl, rfl⟩
                                refine ⟨(allc (fun _ _ => trivial) (fun _ h => nomatch h)), (allc (trivial) (fun _ h => nomatch h)), AOps_as 99 (v' := iV r41.1) (H' := [.vec 0 (intsD r41.2), .vec 0 (intsD x20), .vec 0 (intsD x21), .vec 0 (intsD x38)]) rfl rfl ?_⟩
                                refine AOps_q 100 _ rfl rfl rfl (QOp_add _ _ _ _ _ _ _ rfl rfl rfl) ?_
                                refine AOps_q 101 _ rfl rfl rfl (QOp_move _ _ rfl rfl) ?_
                                refine AOps_q 102 _ rfl rfl rfl (QOp_geq _ _ _ _ _ _ _ rfl rfl rfl) ?_
                                refine AOps_nil ?_
                                refine ACode_cond _ rfl (fun hb42 => ?_) (fun hb42 => ?_)
                                · have h := iteT hb42 h
                                  refine (ACode_region ?_)
                                  refine AOps_q 103 _ rfl rfl rfl (QOp_move _ _ rfl rfl) ?_
                                  refine AOps_q 104 _ rfl rfl rfl (QOp_move _ _ rfl rfl) ?_
                                  refine AOps_buildSlice 105 _ _ _ [_] (intsD ([bAnd .i64 (bShl .i64 (bShr .i64 (x21.getD x26.toNat 0) (IntKind.u64.wrap (w64 (x18 + 1)))) (IntKind.u64.wrap (w64 (x18 + 1)))) r40])) _ rfl rfl rfl rfl rfl (by decide) Try.underlying38 Try.sizeOf2 (zero_of Try.typeInfo2 rfl) rfl rfl (intsD_one _) ?_
                                  obtain ⟨hc43, h⟩ := guardO h
                                  refine AOps_append 106 _ _ _ _ _ _ _ _ _ _ _ _ rfl rfl rfl rfl rfl rfl rfl Try.underlying38 Try.type2 rfl rfl rfl (by decide) rfl rfl rfl rfl (intsD_one _) (by rw [intsD_length, intsD_length]; exact hc43) ?_
                                  rw [intsD_app]
                                  refine AOps_q 12 _ rfl rfl rfl (QOp_assign _ _ rfl rfl) ?_
                                  refine AOps_nil ?_
                                  cases h
                                  exact Weak_trans (Weak_keep 0 hm [1, 5, 7, 8, 9, 10, 11, 12, 13, 14, 15] [0, 1, 2, 3] _ _ rfl rfl rfl) (Weak_reset 0 hm hz [1, 5, 7, 8, 9, 10, 11, 12, 13, 14, 15] _ _ rfl rfl)
                                · have h := iteF hb42 h
                                  refine ACode_skip ?_
                                  cases h
                                  exact Weak_keep 0 hm [1, 5, 7, 8, 9, 10, 11, 12, 13, 14, 15] [0, 1, 2, 3] _ _ rfl rfl rfl
                              intro E' H' hw
                              refine ACode_weak hw ?_
                              have h := hks44
                              refine (ACode_region ?_)
                              refine AOps_q 88 _ rfl rfl rfl (QOp_move _ _ rfl rfl) ?_
                              refine AOps_q 89 _ rfl rfl rfl (QOp_add _ _ _ _ _ _ _ rfl rfl rfl) ?_
                              refine AOps_q 15 _ rfl rfl rfl (QOp_assign _ _ rfl rfl) ?_
                              refine AOps_nil ?_
                              exact ⟨k4, _, _, Nat.lt_succ_self _, Weak_keep 0 hm [1, 5, 7, 8, 9, 10, 11, 12, 13, 14, 15] [0, 1, 2, 3] _ _ rfl rfl rfl, _, _, _, rfl, rfl, h⟩
                            · have h := iteF hb39 h
                              refine ACode_exit ?_
                              cases h
                              exact Weak_keep 0 hm [1, 5, 7, 8, 9, 10, 11, 12, 13] [0, 1, 2, 3] _ _ rfl rfl rfl
                      intro E' H' hw
                      refine ACode_weak hw ?_
                      have h := hks45
                      refine (ACode_region ?_)
                      refine AOps_q 61 _ rfl rfl rfl (QOp_move _ _ rfl rfl) ?_
                      refine AOps_q 62 _ rfl rfl rfl (QOp_add _ _ _ _ _ _ _ rfl rfl rfl) ?_
                      refine AOps_q 13 _ rfl rfl rfl (QOp_assign _ _ rfl rfl) ?_
                      refine AOps_nil ?_
                      exact ⟨k3, _, _, Nat.lt_succ_self _, Weak_keep 0 hm [1, 5, 7, 8, 9, 10, 11, 12, 13] [0, 1, 2, 3] _ _ rfl rfl rfl, _, _, _, rfl, rfl, h⟩
                    · have h := iteF hb29 h
                      refine ACode_exit ?_
                      cases h
                      exact Weak_keep 0 hm [1, 5, 7, 8, 9, 10, 11, 12] [0, 1, 2, 3] _ _ rfl rfl rfl
                intro E' H' hw
                refine ACode_weak hw ?_
                have h := hks46
                refine ACode_seq (ACode_region ?_)
                refine AOps_q 107 _ rfl rfl rfl (QOp_move _ _ rfl rfl) ?_
                refine AOps_q 108 _ rfl rfl rfl (QOp_len_vec _ _ _ _ _ _ _ _ (intsD_length _) rfl rfl rfl rfl Try.underlying38 rfl rfl) ?_
                refine AOps_q 109 _ rfl rfl rfl (QOp_gtr _ _ _ _ _ _ _ rfl rfl rfl) ?_
                refine AOps_nil ?_
                refine ACode_cond _ rfl (fun hb47 => ?_) (fun hb47 => ?_)
                · have h := iteT hb47 h
                  refine ACode_seq (ACode_region ?_)
                  refine AOps_q 10 _ rfl rfl rfl (QOp_assign _ _ rfl rfl) ?_
                  refine AOps_nil ?_
                  refine ACode_seq (ACode_region ?_)
                  refine AOps_q 110 _ rfl rfl rfl (QOp_move _ _ rfl rfl) ?_
                  refine AOps_q 111 _ rfl rfl rfl (QOp_move _ _ rfl rfl) ?_
                  refine AOps_buildSlice 112 _ _ _ [_] (intsD ([x18])) _ rfl rfl rfl rfl rfl (by decide) Try.underlying38 Try.sizeOf2 (zero_of Try.typeInfo2 rfl) rfl rfl (intsD_one _) ?_
                  obtain ⟨hc48, h⟩ := guardO h
                  refine AOps_append 113 _ _ _ _ _ _ _ _ _ _ _ _ rfl rfl rfl rfl rfl rfl rfl Try.underlying38 Try.type2 rfl rfl rfl (by decide) rfl rfl rfl rfl (intsD_one _) (by rw [intsD_length, intsD_length]; exact hc48) ?_
                  rw [intsD_app]
                  refine AOps_q 8 _ rfl rfl rfl (QOp_assign _ _ rfl rfl) ?_
                  refine AOps_nil ?_
                  refine ACode_seq (ACode_region ?_)
                  refine AOps_q 114 _ rfl rfl rfl (QOp_move _ _ rfl rfl) ?_
                  obtain ⟨r49, hr49, h⟩ := bindO h
                  refine AOps_callL [] 115 _ _ _ _ _ _ _ _ _ _ rfl rfl rfl rfl rfl rfl rfl Try.call78 rfl (nodupB_sound _ rfl) rfl rfl rfl (spec_l10Each_ac k s46.2 _ hr49) ?_
                  rintro _ _ ⟨rfl, rfl⟩
                  refine ⟨(allc (intsD_flat _) (fun _ h => nomatch h)), (allc (trivial) (fun _ h => nomatch h)), AOps_as 115 (v' := .vec 5 0) (H' := [.vec 0 (intsD s46.1), .vec 1 (intsD (x20 ++ ([x18]))), .vec 0 (intsD x21), .vec 0 (intsD s46.2), .vec 0 (intsD ([x18])), .vec 0 (intsD r49)]) rfl rfl ?_⟩
                  refine AOps_q 9 _ rfl rfl rfl (QOp_assign _ _ rfl rfl) ?_
                  refine AOps_nil ?_
                  refine (ACode_region ?_)
                  refine AOps_q 116 _ rfl rfl rfl (QOp_move _ _ rfl rfl) ?_
                  refine AOps_q 117 _ rfl rfl rfl (QOp_sub _ _ _ _ _ _ _ rfl rfl rfl) ?_
                  refine AOps_q 7 _ rfl rfl rfl (QOp_assign _ _ rfl rfl) ?_
                  refine AOps_nil ?_
                  cases h
                  exact Weak_trans (Weak_keep 0 hm [1, 5, 7, 8, 9, 10, 11] [0, 1, 5] _ _ rfl rfl rfl) (Weak_reset 0 hm hz [1, 5, 7, 8, 9, 10, 11] _ _ rfl rfl)
                · have h := iteF hb47 h
                  refine ACode_skip ?_
                  cases h
                  exact Weak_keep 0 hm [1, 5, 7, 8, 9, 10, 11] [0, 1, 2] _ _ rfl rfl rfl
              intro E' H' hw
              refine ACode_weak hw ?_
              have h := hks50
              refine (ACode_region ?_)
              refine AOps_q 54 _ rfl rfl rfl (QOp_move _ _ rfl rfl) ?_
              refine AOps_q 55 _ rfl rfl rfl (QOp_add _ _ _ _ _ _ _ rfl rfl rfl) ?_
              refine AOps_q 11 _ rfl rfl rfl (QOp_assign _ _ rfl rfl) ?_
              refine AOps_nil ?_
              exact ⟨k2, _, _, Nat.lt_succ_self _, Weak_keep 0 hm [1, 5, 7, 8, 9, 10, 11] [0, 1, 2] _ _ rfl rfl rfl, _, _, _, _, _, _, rfl, rfl, h⟩
          intro E' H' hw
          refine ATail_weak hw ?_
          have h := hks51
          refine ATail_end ?_
          exact ⟨k1, _, _, Nat.lt_succ_self _, Weak_keep 0 hm [1, 5, 7, 8, 9] [0, 1, 2] _ _ rfl rfl rfl, _, _, _, _, rfl, rfl, h⟩
        · have h := iteF hb15 h
          refine ACode_exit ?_
          cases h
          exact Weak_keep 0 hm [8] [1] _ _ rfl rfl rfl
    intro E' H' hw
    refine ACode_weak hw ?_
    have h := hks52
    refine ACode_seq (ACode_region ?_)
    refine AOps_q 118 _ rfl rfl rfl (QOp_move _ _ rfl rfl) ?_
    refine AOps_q 2 _ rfl rfl rfl (QOp_assign _ _ rfl rfl) ?_
    refine AOps_q 3 _ rfl rfl rfl (QOp_assign _ _ rfl rfl) ?_
    refine AOps_nil ?_
    refine ACode_ret ?_
    cases h
    exact ⟨_, _, fun r a w h => ⟨r, h⟩, _, _, [], _, (.cons (ResV_tmp _ _ rfl) (.cons (ResV_tmp _ _ rfl) .nil)), rfl, rfl, rfl, rfl, rfl⟩

-- (*loop.example/g01362/impl.Colouring).points$1
def impl_Colouring_points_c1 (p0 : Int) : Bool :=
  true
set_option maxRecDepth 100000 in
theorem impl_Colouring_points_c1_ac (p0 : Int) : AC Try.prog 114 [iV p0] [] (fun res H' => res = [bV (impl_Colouring_points_c1 p0)] ∧ H' = []) := by
  refine AC_of_body true Try.func114 rfl Try.ntmps114 (rvs := [.tmp 2]) rfl rfl (fun G hG => ?_)
  have hm : G.H.length = 0 := by rw [hG]; rfl
  have hz : zeroG G.H = true := by rw [hG]; rfl
  obtain ⟨r, h⟩ : ∃ r, impl_Colouring_points_c1 p0 = r := ⟨_, rfl⟩
  rw [h]
  unfold impl_Colouring_points_c1 at h
  refine ACode_seq (ACode_region ?_)
  refine AOps_q 2 _ rfl rfl rfl (QOp_assign _ _ rfl rfl) ?_
  refine AOps_nil ?_
  refine ACode_seq (ACode_region ?_)
  refine AOps_q 2 _ rfl rfl rfl (QOp_assign _ _ rfl rfl) ?_
  refine AOps_nil ?_
  refine ACode_ret ?_
  cases h
  exact ⟨_, _, fun r a w h => ⟨r, h⟩, _, _, [], _, (.cons (ResV_tmp _ _ rfl) .nil), rfl, rfl, rfl, rfl, rfl⟩

-- (*loop.example/g01362/impl.Colouring).points
def impl_Colouring_points (k : Nat) (p0 : Col) : Option (List Int) :=
  (impl_Colouring_that k p0 (fun a0 => some (impl_Colouring_points_c1 a0))).bind fun r1 => some r1
set_option maxRecDepth 100000 in
theorem impl_Colouring_points_ac (k : Nat) (p0 : Col) (r : List Int) (h : impl_Colouring_points k p0 = some r) : AC Try.prog 80 [.d (.pv (colD p0) 0)] [] (fun res H' => res = [.vec 0 0] ∧ H' = [.vec 0 (intsD r)]) := by
  refine AC_of_body true Try.func80 rfl Try.ntmps80 (rvs := [.tmp 2]) rfl rfl (fun G hG => ?_)
  have hm : G.H.length = 0 := by rw [hG]; rfl
  have hz : zeroG G.H = true := by rw [hG]; rfl
  unfold impl_Colouring_points at h
  refine ACode_seq (ACode_region ?_)
  refine AOps_q 2 _ rfl rfl rfl (QOp_assign _ _ rfl rfl) ?_
  refine AOps_nil ?_
  refine ACode_seq (ACode_region ?_)
  refine AOps_q 3 _ rfl rfl rfl (QOp_move _ _ rfl rfl) ?_
  obtain ⟨r1, hr1, h⟩ := bindO h
  refine AOps_call [] 4 _ _ _ _ _ _ _ _ _ _ rfl rfl rfl rfl rfl rfl rfl Try.call72 rfl (nodupB_sound _ rfl) rfl rfl rfl (impl_Colouring_that_ac k p0 (fun a0 => some (impl_Colouring_points_c1 a0)) 114 ([]) Try.call114 (fun a0 r h => by cases h; exact impl_Colouring_points_c1_ac a0) _ hr1) ?_
  rintro _ _ ⟨rfl, rfl⟩
  refine ⟨(allc (fun _ _ => trivial) (fun _ h => nomatch h)), (allc (trivial) (fun _ h => nomatch h)), AOps_as 4 (v' := .vec 0 0) (H' := [.vec 0 (intsD r1)]) rfl rfl ?_⟩
  refine AOps_q 2 _ rfl rfl rfl (QOp_assign _ _ rfl rfl) ?_
  refine AOps_nil ?_
  refine ACode_ret ?_
  cases h
  exact ⟨_, _, Weak_reset 0 hm hz [2] _ _ rfl rfl, _, _, [0], _, (.cons (ResV_tmp _ _ rfl) .nil), rfl, rfl, rfl, rfl, rfl⟩

-- (*loop.example/g01362/impl.Colouring).lesser
def impl_Colouring_lesser_l1 (p0 : Col) (p1 : List Int) (p2 : List Int) (x6 : Int) : Nat → Int → (List Int) → Option (List Int)
  | 0, _, _ => none
  | k1 + 1, x12, x13 => (if decide (x12 < (((p2.take p2.length).drop (w64 (x6 + 1)).toNat).length : Int)) then ((if 0 ≤ x12 ∧ x12 < (((p2.take p2.length).drop (w64 (x6 + 1)).toNat).length : Int) then ((if decide ((p1.length : Int) = 0) then some true else (if 0 ≤ w64 ((p1.length : Int) - 1) ∧ w64 ((p1.length : Int) - 1) < (p1.length : Int) then (impl_Colouring_at p0 (p1.getD (w64 ((p1.length : Int) - 1)).toNat 0) (((p2.take p2.length).drop (w64 (x6 + 1)).toNat).getD x12.toNat 0)).bind fun r18 => (if 0 ≤ w64 ((p1.length : Int) - 1) ∧ w64 ((p1.length : Int) - 1) < (p1.length : Int) then (impl_Colouring_at p0 (p1.getD (w64 ((p1.length : Int) - 1)).toNat 0) (p2.getD x6.toNat 0)).bind fun r20 => some (decide (r18 = r20)) else none) else none)) : Option (Bool)).bind fun s21 => (if s21 then (if x13.length + ([(((p2.take p2.length).drop (w64 (x6 + 1)).toNat).getD x12.toNat 0)]).length ≤ 1099511627776 then some (x13 ++ ([(((p2.take p2.length).drop (w64 (x6 + 1)).toNat).getD x12.toNat 0)])) else none) else some x13) else none) : Option (List Int)).bind fun s24 => impl_Colouring_lesser_l1 p0 p1 p2 x6 k1 (w64 (x12 + 1)) s24 else some x13)
def impl_Colouring_lesser_l0 (k : Nat) (self : Col → (List Int) → (List Int) → (List Int) → Option (List Int)) (p0 : Col) (p1 : List Int) (p2 : List Int) : Nat → Int → (List Int) → Option (List Int)
  | 0, _, _ => none
  | k0 + 1, x6, x7 => (if decide (x6 < (p2.length : Int)) then ((if 0 ≤ x6 ∧ x6 < (p2.length : Int) then (if decide (w64 ((w64 ((p1.length : Int) + (p2.length : Int))) - x6) ≤ (x7.length : Int)) then some (.inr x7) else ((if 0 ≤ w64 (x6 + 1) ∧ w64 (x6 + 1) ≤ (p2.length : Int) ∧ (p2.length : Int) ≤ (p2.length : Int) then impl_Colouring_lesser_l1 p0 p1 p2 x6 k 0 ([] : List Int) else none) : Option (List Int)).bind fun s25 => (if p1.isEmpty then (if ([(p2.getD x6.toNat 0)]).length ≤ 1099511627776 ∧ ([(p2.getD x6.toNat 0)]).length ≠ 0 then (self p0 ([(p2.getD x6.toNat 0)]) s25 x7).bind fun r29 => some (.inl r29) else none) else (cloneA p1).bind fun r30 => (if r30.length + ([(p2.getD x6.toNat 0)]).length ≤ 1099511627776 then (self p0 (r30 ++ ([(p2.getD x6.toNat 0)])) s25 x7).bind fun r32 => some (.inl r32) else none))) else none) : Option (Sum (List Int) (List Int))).bind fun os33 => (match os33 with | .inl s33 => impl_Colouring_lesser_l0 k self p0 p1 p2 k0 (w64 (x6 + 1)) s33 | .inr rr => some rr) else some x7)
def impl_Colouring_lesser_body (self : Col → (List Int) → (List Int) → (List Int) → Option (List Int)) (k : Nat) (p0 : Col) (p1 : List Int) (p2 : List Int) (p3 : List Int) : Option (List Int) :=
  ((if decide ((p3.length : Int) < (p1.length : Int)) then (if p1.isEmpty then none else (cloneA p1).bind fun r4 => some r4) else some p3) : Option (List Int)).bind fun s5 => impl_Colouring_lesser_l0 k self p0 p1 p2 k 0 s5
def impl_Colouring_lesser : Nat → Col → (List Int) → (List Int) → (List Int) → Option (List Int)
  | 0, _, _, _, _ => none
  | k + 1, p0, p1, p2, p3 => impl_Colouring_lesser_body (impl_Colouring_lesser k) k p0 p1 p2 p3
set_option maxRecDepth 100000 in
theorem impl_Colouring_lesser_ac (k : Nat) (p0 : Col) (p1 : List Int) (p2 : List Int) (p3 : List Int) (r : List Int) (h : impl_Colouring_lesser k p0 p1 p2 p3 = some r) : AC Try.prog 79 [.d (.pv (colD p0) 0), .d (.sl none (intsD p1)), .d (.sl none (intsD p2)), .ptr 0 0] [.ref (.vec 1 0), .vec 0 (intsD p3)] (fun res H' => res = [] ∧ H' = [.ref (.vec 1 1), .vec 1 (intsD r)]) := by
  induction k generalizing p0 p1 p2 p3 r with
  | zero => simp [impl_Colouring_lesser] at h
  | succ k ih =>
    rw [impl_Colouring_lesser] at h
    obtain ⟨self, hself, hk⟩ : ∃ self : Col → (List Int) → (List Int) → (List Int) → Option (List Int), (∀ (p0 : Col) (p1 : List Int) (p2 : List Int) (p3 : List Int) (r : List Int), self p0 p1 p2 p3 = some r → AC Try.prog 79 [.d (.pv (colD p0) 0), .d (.sl none (intsD p1)), .d (.sl none (intsD p2)), .ptr 0 0] [.ref (.vec 1 0), .vec 0 (intsD p3)] (fun res H' => res = [] ∧ H' = [.ref (.vec 1 1), .vec 1 (intsD r)])) ∧ impl_Colouring_lesser k = self := ⟨impl_Colouring_lesser k, fun p0 p1 p2 p3 r h => ih p0 p1 p2 p3 r h, rfl⟩
    rw [hk] at h
    clear ih hk
    refine AC_of_body true Try.func79 rfl Try.ntmps79 (rvs := []) rfl rfl (fun G hG => ?_)
    have hm : G.H.length = 2 := by rw [hG]; rfl
    have hz : zeroG G.H = true := by rw [hG]; rfl
    refine ACode_weak (Weak_bump 0 1 _ rfl rfl _ rfl) ?_
    unfold impl_Colouring_lesser_body at h
    obtain ⟨s5, hss5, hks5⟩ := bindO h
    clear h
    refine ACode_seqJ (fun E' H' => Weak 92 G E' H' [(0, .d (.pv (colD p0) 0)), (1, .d (.sl none (intsD p1))), (2, .d (.sl none (intsD p2))), (3, .ptr 0 0)] [.ref (.vec 1 1), .vec 1 (intsD s5)]) ?_ ?_
    · have h := hss5
      clear hss5
      refine ACode_seq (ACode_region ?_)
      refine AOps_q 13 _ rfl rfl rfl (QOp_move _ _ rfl rfl) ?_
      refine AOps_q 14 _ rfl rfl rfl (QOp_len_sl _ _ _ _ _ _ _ (intsD_length _) rfl rfl rfl rfl Try.underlying38 rfl) ?_
      refine AOps_q 15 _ rfl rfl rfl (QOp_move _ _ rfl rfl) ?_
      refine AOps_q 16 _ rfl rfl rfl (QOp_nilCheck_ptr _ _ _ _ rfl rfl rfl rfl) ?_
      refine AOps_q 17 _ rfl rfl rfl (QOp_load_ref _ _ _ _ rfl Try.isAgg38 rfl rfl) ?_
      refine AOps_q 18 _ rfl rfl rfl (QOp_len_vec _ _ _ _ _ _ _ _ (intsD_length _) rfl rfl rfl rfl Try.underlying38 rfl rfl) ?_
      refine AOps_q 19 _ rfl rfl rfl (QOp_gtr _ _ _ _ _ _ _ rfl rfl rfl) ?_
      refine AOps_nil ?_
      refine ACode_cond _ rfl (fun hb1 => ?_) (fun hb1 => ?_)
      · have h := iteT hb1 h
        refine (ACode_region ?_)
        refine AOps_q 20 _ rfl rfl rfl (QOp_move _ _ rfl rfl) ?_
        refine AOps_q 21 _ rfl rfl rfl (QOp_move _ _ rfl rfl) ?_
        refine bsplit (p1.isEmpty) (fun hb2 => ?_) (fun hb2 => ?_)
        · have h := iteT hb2 h
          cases h
        · have h := iteF hb2 h
          obtain ⟨r4, hr4, h⟩ := bindO h
          refine AOps_call [] 22 _ _ _ _ _ _ _ _ _ _ rfl rfl rfl rfl rfl rfl rfl Try.call113 rfl (nodupB_sound _ rfl) rfl rfl rfl (cloneA_ac p1 _ hb2 hr4) ?_
          rintro _ _ ⟨rfl, rfl⟩
          refine ⟨(allc (fun _ _ => trivial) (fun _ h => nomatch h)), (allc (trivial) (fun _ h => nomatch h)), AOps_as 22 (v' := .vec 2 0) (H' := [.ref (.vec 1 1), .vec 1 (intsD p3), .vec 0 (intsD r4)]) rfl rfl ?_⟩
          refine AOps_q 23 _ rfl rfl rfl (QOp_nilCheck_ptr _ _ _ _ rfl rfl rfl rfl) ?_
          refine AOps_storeR 0 _ _ _ _ _ rfl rfl rfl rfl rfl rfl rfl rfl Try.sizeOf38 (fun r a w hr => vec_one hr rfl rfl rfl) ?_
          refine AOps_weak (Weak_move 0 1 2 _ _ _ _ rfl rfl rfl rfl _ rfl) ?_
          refine AOps_nil ?_
          cases h
          exact Weak_trans (Weak_keep 2 hm [0, 1, 2, 3] [] _ _ rfl rfl rfl) (Weak_reset 2 hm hz [0, 1, 2, 3] _ _ rfl rfl)
      · have h := iteF hb1 h
        refine ACode_skip ?_
        cases h
        exact Weak_keep 2 hm [0, 1, 2, 3] [] _ _ rfl rfl rfl
    intro E' H' hw
    refine ACode_weak hw ?_
    have h := hks5
    refine ACode_seq (ACode_region ?_)
    refine AOps_q 24 _ rfl rfl rfl (QOp_move _ _ rfl rfl) ?_
    refine AOps_q 25 _ rfl rfl rfl (QOp_len_sl _ _ _ _ _ _ _ (intsD_length _) rfl rfl rfl rfl Try.underlying38 rfl) ?_
    refine AOps_q 26 _ rfl rfl rfl (QOp_move _ _ rfl rfl) ?_
    refine AOps_nil ?_
    refine ACode_block ?_
    refine ACode_loopW (fun k0 E H => ∃ (x6 : Int) (x7 : List Int), E = [(0, .d (.pv (colD p0) 0)), (1, .d (.sl none (intsD p1))), (2, .d (.sl none (intsD p2))), (3, .ptr 0 0), (24, .d (.sl none (intsD p2))), (25, iV (p2.length : Int)), (26, iV x6)] ∧ H = [.ref (.vec 1 1), .vec 1 (intsD x7)] ∧ impl_Colouring_lesser_l0 k self p0 p1 p2 k0 x6 x7 = some r) k _ _ (Weak_keep 2 hm [0, 1, 2, 3, 24, 25, 26] [] _ _ rfl rfl rfl) ⟨_, _, rfl, rfl, h⟩ ?_
    clear h
    rintro k0 E H ⟨x6, x7, rfl, rfl, h⟩
    cases k0 with
    | zero => cases (show (none : Option (List Int)) = some _ from h)
    | succ k0 =>
      rw [impl_Colouring_lesser_l0] at h
      refine ACode_seq (ACode_region ?_)
      refine AOps_q 27 _ rfl rfl rfl (QOp_lss _ _ _ _ _ _ _ rfl rfl rfl) ?_
      refine AOps_nil ?_
      refine ACode_seq ?_
      refine ACode_cond _ rfl (fun hb8 => ?_) (fun hb8 => ?_)
      · have h := iteT hb8 h
        refine ACode_skip ?_
        obtain ⟨os33, hss33, hks33⟩ := bindO h
        clear h
        refine ACode_seqJ (fun E' H' => ∃ s33 : List Int, os33 = .inl s33 ∧ Weak 92 G E' H' [(0, .d (.pv (colD p0) 0)), (1, .d (.sl none (intsD p1))), (2, .d (.sl none (intsD p2))), (3, .ptr 0 0), (24, .d (.sl none (intsD p2))), (25, iV (p2.length : Int)), (26, iV x6)] [.ref (.vec 1 1), .vec 1 (intsD s33)]) ?_ ?_
        · have h := hss33
          clear hss33
          refine ACode_block ?_
          refine ACode_seq (ACode_region ?_)
          refine AOps_q 28 _ rfl rfl rfl (QOp_move _ _ rfl rfl) ?_
          obtain ⟨hc9, h⟩ := guardO h
          refine AOps_q 29 _ rfl rfl rfl (QOp_indexAddr_sl _ _ _ _ _ _ _ _ rfl Try.underlying38 Try.sizeOf2 hc9.1 (by rw [intsD_length]; exact hc9.2) rfl rfl) ?_
          refine AOps_q 30 _ rfl rfl rfl (QOp_load_pv _ _ _ _ _ rfl Try.isAgg2 rfl (intsD_get _ _ 0 (by omega))) ?_
          refine AOps_q 8 _ rfl rfl rfl (QOp_assign _ _ rfl rfl) ?_
          refine AOps_q 9 _ rfl rfl rfl (QOp_assign _ _ rfl rfl) ?_
          refine AOps_nil ?_
          refine ACode_seq ?_
          refine ACode_seq (ACode_region ?_)
          refine AOps_q 31 _ rfl rfl rfl (QOp_move _ _ rfl rfl) ?_
          refine AOps_q 32 _ rfl rfl rfl (QOp_len_sl _ _ _ _ _ _ _ (intsD_length _) rfl rfl rfl rfl Try.underlying38 rfl) ?_
          refine AOps_q 33 _ rfl rfl rfl (QOp_move _ _ rfl rfl) ?_
          refine AOps_q 34 _ rfl rfl rfl (QOp_len_sl _ _ _ _ _ _ _ (intsD_length _) rfl rfl rfl rfl Try.underlying38 rfl) ?_
          refine AOps_q 35 _ rfl rfl rfl (QOp_add _ _ _ _ _ _ _ rfl rfl rfl) ?_
          refine AOps_q 36 _ rfl rfl rfl (QOp_move _ _ rfl rfl) ?_
          refine AOps_q 37 _ rfl rfl rfl (QOp_sub _ _ _ _ _ _ _ rfl rfl rfl) ?_
          refine AOps_q 38 _ rfl rfl rfl (QOp_move _ _ rfl rfl) ?_
          refine AOps_q 39 _ rfl rfl rfl (QOp_nilCheck_ptr _ _ _ _ rfl rfl rfl rfl) ?_
          refine AOps_q 40 _ rfl rfl rfl (QOp_load_ref _ _ _ _ rfl Try.isAgg38 rfl rfl) ?_
          refine AOps_q 41 _ rfl rfl rfl (QOp_len_vec _ _ _ _ _ _ _ _ (intsD_length _) rfl rfl rfl rfl Try.underlying38 rfl rfl) ?_
          refine AOps_q 42 _ rfl rfl rfl (QOp_leq _ _ _ _ _ _ _ rfl rfl rfl) ?_
          refine AOps_nil ?_
          refine ACode_cond _ rfl (fun hb10 => ?_) (fun hb10 => ?_)
          · have h := iteT hb10 h
            refine ACode_ret ?_
            cases h
            have h := hks33
            cases h
            exact ⟨_, _, fun r a w h => ⟨r, h⟩, _, _, [], _, .nil, rfl, rfl, rfl, rfl, rfl⟩
          · have h := iteF hb10 h
            refine ACode_skip ?_
            refine ACode_seq (ACode_region ?_)
            refine AOps_buildSlice 43 _ _ _ [] (intsD ([] : List Int)) _ rfl rfl rfl rfl rfl (by decide) Try.underlying38 Try.sizeOf2 (zero_of Try.typeInfo2 rfl) rfl rfl (intsD_one _) ?_
            refine AOps_q 10 _ rfl rfl rfl (QOp_assign _ _ rfl rfl) ?_
            refine AOps_nil ?_
            obtain ⟨s25, hss25, hks25⟩ := bindO h
            clear h
            refine ACode_seqJ (fun E' H' => Weak 92 G E' H' [(0, .d (.pv (colD p0) 0)), (1, .d (.sl none (intsD p1))), (2, .d (.sl none (intsD p2))), (3, .ptr 0 0), (9, iV (p2.getD x6.toNat 0)), (10, .vec 2 0), (24, .d (.sl none (intsD p2))), (25, iV (p2.length : Int)), (26, iV x6)] [.ref (.vec 1 1), .vec 1 (intsD x7), .vec 0 (intsD s25)]) ?_ ?_
            · have h := hss25
              clear hss25
              refine ACode_seq (ACode_region ?_)
              refine AOps_q 44 _ rfl rfl rfl (QOp_move _ _ rfl rfl) ?_
              refine AOps_q 45 _ rfl rfl rfl (QOp_move _ _ rfl rfl) ?_
              refine AOps_q 46 _ rfl rfl rfl (QOp_add _ _ _ _ _ _ _ rfl rfl rfl) ?_
              obtain ⟨hc11, h⟩ := guardO h
              refine AOps_q 47 _ rfl rfl rfl (QOp_slice_sl _ _ _ _ _ _ _ _ ((w64 (x6 + 1)).toNat) (p2.length) rfl Try.underlying38 Try.sizeOf2 rfl ⟨_, by rw [Int.toNat_of_nonneg (by omega)]; rfl⟩ (by rw [intsD_length]) (by omega) (by rw [intsD_length]; omega) (intsD_part _ _ _)) ?_
              refine AOps_q 48 _ rfl rfl rfl (QOp_len_sl _ _ _ _ _ _ _ (intsD_length _) rfl rfl rfl rfl Try.underlying38 rfl) ?_
              refine AOps_q 49 _ rfl rfl rfl (QOp_move _ _ rfl rfl) ?_
              refine AOps_nil ?_
              refine ACode_block ?_
              refine ACode_loopW (fun k1 E H => ∃ (x12 : Int) (x13 : List Int), E = [(0, .d (.pv (colD p0) 0)), (1, .d (.sl none (intsD p1))), (2, .d (.sl none (intsD p2))), (3, .ptr 0 0), (9, iV (p2.getD x6.toNat 0)), (10, .vec 2 0), (24, .d (.sl none (intsD p2))), (25, iV (p2.length : Int)), (26, iV x6), (47, .d (.sl none (intsD ((p2.take p2.length).drop (w64 (x6 + 1)).toNat)))), (48, iV (((p2.take p2.length).drop (w64 (x6 + 1)).toNat).length : Int)), (49, iV x12)] ∧ H = [.ref (.vec 1 1), .vec 1 (intsD x7), .vec 0 (intsD x13)] ∧ impl_Colouring_lesser_l1 p0 p1 p2 x6 k1 x12 x13 = some s25) k _ _ (Weak_keep 2 hm [0, 1, 2, 3, 9, 10, 24, 25, 26, 47, 48, 49] [2] _ _ rfl rfl rfl) ⟨_, _, rfl, rfl, h⟩ ?_
              clear h
              rintro k1 E H ⟨x12, x13, rfl, rfl, h⟩
              cases k1 with
              | zero => cases (show (none : Option (List Int)) = some _ from h)
              | succ k1 =>
                rw [impl_Colouring_lesser_l1] at h
                refine ACode_seq (ACode_region ?_)
                refine AOps_q 50 _ rfl rfl rfl (QOp_lss _ _ _ _ _ _ _ rfl rfl rfl) ?_
                refine AOps_nil ?_
                refine ACode_seq ?_
                refine ACode_cond _ rfl (fun hb14 => ?_) (fun hb14 => ?_)
                · have h := iteT hb14 h
                  refine ACode_skip ?_
                  obtain ⟨s24, hss24, hks24⟩ := bindO h
                  clear h
                  refine ACode_seqJ (fun E' H' => Weak 92 G E' H' [(0, .d (.pv (colD p0) 0)), (1, .d (.sl none (intsD p1))), (2, .d (.sl none (intsD p2))), (3, .ptr 0 0), (9, iV (p2.getD x6.toNat 0)), (10, .vec 2 0), (24, .d (.sl none (intsD p2))), (25, iV (p2.length : Int)), (26, iV x6), (47, .d (.sl none (intsD ((p2.take p2.length).drop (w64 (x6 + 1)).toNat)))), (48, iV (((p2.take p2.length).drop (w64 (x6 + 1)).toNat).length : Int)), (49, iV x12)] [.ref (.vec 1 1), .vec 1 (intsD x7), .vec 0 (intsD s24)]) ?_ ?_
                  · have h := hss24
                    clear hss24
                    refine ACode_block ?_
                    refine ACode_seq (ACode_region ?_)
                    obtain ⟨hc15, h⟩ := guardO h
                    refine AOps_q 51 _ rfl rfl rfl (QOp_indexAddr_sl _ _ _ _ _ _ _ _ rfl Try.underlying38 Try.sizeOf2 hc15.1 (by rw [intsD_length]; exact hc15.2) rfl rfl) ?_
                    refine AOps_q 52 _ rfl rfl rfl (QOp_load_pv _ _ _ _ _ rfl Try.isAgg2 rfl (intsD_get _ _ 0 (by omega))) ?_
                    refine AOps_q 12 _ rfl rfl rfl (QOp_assign _ _ rfl rfl) ?_
                    refine AOps_nil ?_
                    obtain ⟨s21, hss21, hks21⟩ := bindO h
                    clear h
                    refine ACode_seqJ (fun E' H' => Weak 92 G E' H' [(0, .d (.pv (colD p0) 0)), (1, .d (.sl none (intsD p1))), (2, .d (.sl none (intsD p2))), (3, .ptr 0 0), (9, iV (p2.getD x6.toNat 0)), (10, .vec 2 0), (12, iV (((p2.take p2.length).drop (w64 (x6 + 1)).toNat).getD x12.toNat 0)), (24, .d (.sl none (intsD p2))), (25, iV (p2.length : Int)), (26, iV x6), (47, .d (.sl none (intsD ((p2.take p2.length).drop (w64 (x6 + 1)).toNat)))), (48, iV (((p2.take p2.length).drop (w64 (x6 + 1)).toNat).length : Int)), (49, iV x12), (76, bV s21)] [.ref (.vec 1 1), .vec 1 (intsD x7), .vec 0 (intsD x13)]) ?_ ?_
                    · have h := hss21
                      clear hss21
                      refine (ACode_quiet mixed (by kernel_rfl) ?_)
                      refine AQ_q 53 _ rfl rfl rfl (QOp_move _ _ rfl rfl) ?_
                      refine AQ_q 54 _ rfl rfl rfl (QOp_len_sl _ _ _ _ _ _ _ (intsD_length _) rfl rfl rfl rfl Try.underlying38 rfl) ?_
                      refine AQ_q 55 _ rfl rfl rfl (QOp_eql _ _ _ _ _ _ _ rfl rfl rfl) ?_
                      refine AQ_q 56 _ rfl rfl rfl (QOp_move _ _ rfl rfl) ?_
                      refine AQ_case 56 _ rfl (fun hb16 => ?_) (fun hb16 => ?_)
                      · have h := iteT hb16 h
                        refine AQ_skip 57 rfl rfl rfl ?_
                        refine AQ_skip 58 rfl rfl rfl ?_
                        refine AQ_skip 59 rfl rfl rfl ?_
                        refine AQ_skip 60 rfl rfl rfl ?_
                        refine AQ_skip 61 rfl rfl rfl ?_
                        refine AQ_skip 62 rfl rfl rfl ?_
                        refine AQ_skip 63 rfl rfl rfl ?_
                        refine AQ_skip 64 rfl rfl rfl ?_
                        refine AQ_skip 65 rfl rfl rfl ?_
                        refine AQ_skip 66 rfl rfl rfl ?_
                        refine AQ_skip 67 rfl rfl rfl ?_
                        refine AQ_skip 68 rfl rfl rfl ?_
                        refine AQ_skip 69 rfl rfl rfl ?_
                        refine AQ_skip 70 rfl rfl rfl ?_
                        refine AQ_skip 71 rfl rfl rfl ?_
                        refine AQ_skip 72 rfl rfl rfl ?_
                        refine AQ_skip 73 rfl rfl rfl ?_
                        refine AQ_skip 74 rfl rfl rfl ?_
                        refine AQ_skip 75 rfl rfl rfl ?_
                        refine AQ_q 76 _ rfl rfl rfl (QOp_pick_t _ _ _ _ rfl rfl rfl) ?_
                        refine AQ_nil ?_
                        cases h
                        exact Weak_keep 2 hm [0, 1, 2, 3, 9, 10, 12, 24, 25, 26, 47, 48, 49, 76] [2] _ _ rfl rfl rfl
                      · have h := iteF hb16 h
                        refine AQ_q 57 _ rfl rfl rfl (QOp_move _ _ rfl rfl) ?_
                        refine AQ_q 58 _ rfl rfl rfl (QOp_move _ _ rfl rfl) ?_
                        refine AQ_q 59 _ rfl rfl rfl (QOp_move _ _ rfl rfl) ?_
                        refine AQ_q 60 _ rfl rfl rfl (QOp_len_sl _ _ _ _ _ _ _ (intsD_length _) rfl rfl rfl rfl Try.underlying38 rfl) ?_
                        refine AQ_q 61 _ rfl rfl rfl (QOp_sub _ _ _ _ _ _ _ rfl rfl rfl) ?_
                        obtain ⟨hc17, h⟩ := guardO h
                        refine AQ_q 62 _ rfl rfl rfl (QOp_indexAddr_sl _ _ _ _ _ _ _ _ rfl Try.underlying38 Try.sizeOf2 hc17.1 (by rw [intsD_length]; exact hc17.2) rfl rfl) ?_
                        refine AQ_q 63 _ rfl rfl rfl (QOp_load_pv _ _ _ _ _ rfl Try.isAgg2 rfl (intsD_get _ _ 0 (by omega))) ?_
                        refine AQ_q 64 _ rfl rfl rfl (QOp_move _ _ rfl rfl) ?_
                        obtain ⟨r18, hr18, h⟩ := bindO h
                        refine AQ_call 65 _ _ _ _ _ _ _ _ _ rfl rfl rfl rfl rfl rfl rfl Try.call62 rfl rfl rfl (impl_Colouring_at_ac p0 (p1.getD (w64 ((p1.length : Int) - 1)).toNat 0) (((p2.take p2.length).drop (w64 (x6 + 1)).toNat).getD x12.toNat 0) _ hr18) ?_
                        refine AQ_q 66 _ rfl rfl rfl (QOp_move _ _ rfl rfl) ?_
                        refine AQ_q 67 _ rfl rfl rfl (QOp_move _ _ rfl rfl) ?_
                        refine AQ_q 68 _ rfl rfl rfl (QOp_move _ _ rfl rfl) ?_
                        refine AQ_q 69 _ rfl rfl rfl (QOp_len_sl _ _ _ _ _ _ _ (intsD_length _) rfl rfl rfl rfl Try.underlying38 rfl) ?_
                        refine AQ_q 70 _ rfl rfl rfl (QOp_sub _ _ _ _ _ _ _ rfl rfl rfl) ?_
                        obtain ⟨hc19, h⟩ := guardO h
                        refine AQ_q 71 _ rfl rfl rfl (QOp_indexAddr_sl _ _ _ _ _ _ _ _ rfl Try.underlying38 Try.sizeOf2 hc19.1 (by rw [intsD_length]; exact hc19.2) rfl rfl) ?_
                        refine AQ_q 72 _ rfl rfl rfl (QOp_load_pv _ _ _ _ _ rfl Try.isAgg2 rfl (intsD_get _ _ 0 (by omega))) ?_
                        refine AQ_q 73 _ rfl rfl rfl (QOp_move _ _ rfl rfl) ?_
                        obtain ⟨r20, hr20, h⟩ := bindO h
                        refine AQ_call 74 _ _ _ _ _ _ _ _ _ rfl rfl rfl rfl rfl rfl rfl Try.call62 rfl rfl rfl (impl_Colouring_at_ac p0 (p1.getD (w64 ((p1.length : Int) - 1)).toNat 0) (p2.getD x6.toNat 0) _ hr20) ?_
                        refine AQ_q 75 _ rfl rfl rfl (QOp_eql _ _ _ _ _ _ _ rfl rfl rfl) ?_
                        refine AQ_q 76 _ rfl rfl rfl (QOp_pick_f _ _ _ _ rfl rfl rfl) ?_
                        refine AQ_nil ?_
                        cases h
                        exact Weak_keep 2 hm [0, 1, 2, 3, 9, 10, 12, 24, 25, 26, 47, 48, 49, 76] [2] _ _ rfl rfl rfl
                    intro E' H' hw
                    refine ACode_weak hw ?_
                    have h := hks21
                    refine ACode_cond _ rfl (fun hb22 => ?_) (fun hb22 => ?_)
                    · have h := iteT hb22 h
                      refine (ACode_region ?_)
                      refine AOps_q 77 _ rfl rfl rfl (QOp_move _ _ rfl rfl) ?_
                      refine AOps_q 78 _ rfl rfl rfl (QOp_move _ _ rfl rfl) ?_
                      refine AOps_buildSlice 79 _ _ _ [_] (intsD ([(((p2.take p2.length).drop (w64 (x6 + 1)).toNat).getD x12.toNat 0)])) _ rfl rfl rfl rfl rfl (by decide) Try.underlying38 Try.sizeOf2 (zero_of Try.typeInfo2 rfl) rfl rfl (intsD_one _) ?_
                      obtain ⟨hc23, h⟩ := guardO h
                      refine AOps_append 80 _ _ _ _ _ _ _ _ _ _ _ _ rfl rfl rfl rfl rfl rfl rfl Try.underlying38 Try.type2 rfl rfl rfl (by decide) rfl rfl rfl rfl (intsD_one _) (by rw [intsD_length, intsD_length]; exact hc23) ?_
                      rw [intsD_app]
                      refine AOps_q 10 _ rfl rfl rfl (QOp_assign _ _ rfl rfl) ?_
                      refine AOps_nil ?_
                      cases h
                      exact Weak_trans (Weak_keep 2 hm [0, 1, 2, 3, 9, 10, 24, 25, 26, 47, 48, 49] [2] _ _ rfl rfl rfl) (Weak_reset 2 hm hz [0, 1, 2, 3, 9, 10, 24, 25, 26, 47, 48, 49] _ _ rfl rfl)
                    · have h := iteF hb22 h
                      refine ACode_skip ?_
                      cases h
                      exact Weak_keep 2 hm [0, 1, 2, 3, 9, 10, 24, 25, 26, 47, 48, 49] [2] _ _ rfl rfl rfl
                  intro E' H' hw
                  refine ACode_weak hw ?_
                  have h := hks24
                  refine (ACode_region ?_)
                  refine AOps_q 81 _ rfl rfl rfl (QOp_add _ _ _ _ _ _ _ rfl rfl rfl) ?_
                  refine AOps_q 49 _ rfl rfl rfl (QOp_move _ _ rfl rfl) ?_
                  refine AOps_nil ?_
                  exact ⟨k1, _, _, Nat.lt_succ_self _, Weak_keep 2 hm [0, 1, 2, 3, 9, 10, 24, 25, 26, 47, 48, 49] [2] _ _ rfl rfl rfl, _, _, rfl, rfl, h⟩
                · have h := iteF hb14 h
                  refine ACode_exit ?_
                  cases h
                  exact Weak_keep 2 hm [0, 1, 2, 3, 9, 10, 24, 25, 26] [2] _ _ rfl rfl rfl
            intro E' H' hw
            refine ACode_weak hw ?_
            have h := hks25
            refine (ACode_region ?_)
            refine AOps_q 82 _ rfl rfl rfl (QOp_move _ _ rfl rfl) ?_
            refine AOps_q 83 _ rfl rfl rfl (QOp_move _ _ rfl rfl) ?_
            refine bsplit (p1.isEmpty) (fun hb26 => ?_) (fun hb26 => ?_)
            · have h := iteT hb26 h
              refine AOps_call [] 84 _ _ _ _ _ _ _ _ _ _ rfl rfl rfl rfl rfl rfl rfl Try.call113 rfl (nodupB_sound _ rfl) rfl rfl rfl (cloneB_ac p1 hb26) ?_
              rintro _ _ ⟨rfl, rfl⟩
              refine ⟨(fun _ h => nomatch h), (allc (trivial) (fun _ h => nomatch h)), AOps_as 84 (v' := .d (.se none)) (H' := [.ref (.vec 1 1), .vec 1 (intsD x7), .vec 0 (intsD s25)]) rfl rfl ?_⟩
              refine AOps_q 85 _ rfl rfl rfl (QOp_move _ _ rfl rfl) ?_
              refine AOps_buildSlice 86 _ _ _ [_] (intsD ([(p2.getD x6.toNat 0)])) _ rfl rfl rfl rfl rfl (by decide) Try.underlying38 Try.sizeOf2 (zero_of Try.typeInfo2 rfl) rfl rfl (intsD_one _) ?_
              obtain ⟨hc28, h⟩ := guardO h
              refine AOps_append0 87 _ _ _ _ _ _ _ _ _ _ rfl rfl rfl rfl rfl rfl rfl Try.underlying38 Try.type2 rfl rfl rfl (by decide) rfl rfl rfl (intsD_one _) (by rw [intsD_length]; exact hc28.1) (by rw [intsD_length]; exact hc28.2) ?_
              refine AOps_q 88 _ rfl rfl rfl (QOp_move _ _ rfl rfl) ?_
              refine AOps_q 89 _ rfl rfl rfl (QOp_move _ _ rfl rfl) ?_
              obtain ⟨r29, hr29, h⟩ := bindO h
              refine AOps_callL [0, 1] 90 _ _ _ _ _ _ _ _ _ _ rfl rfl rfl rfl rfl rfl rfl Try.call79 rfl (nodupB_sound _ rfl) rfl rfl rfl (hself p0 ([(p2.getD x6.toNat 0)]) s25 x7 _ hr29) ?_
              rintro _ _ ⟨rfl, rfl⟩
              refine ⟨(allc (trivial) (allc (intsD_flat _) (fun _ h => nomatch h))), (fun _ h => nomatch h), AOps_as 90 (v' := .tup []) (H' := [.ref (.vec 1 2), .vec 2 (intsD r29), .vec 0 (intsD s25), .vec 0 (intsD ([(p2.getD x6.toNat 0)])), .vec 0 (intsD ([(p2.getD x6.toNat 0)]))]) rfl rfl ?_⟩
              refine AOps_nil ?_
              cases h
              exact ⟨_, rfl, Weak_trans (Weak_keep 2 hm [0, 1, 2, 3, 24, 25, 26] [] _ _ rfl rfl rfl) (Weak_reset 2 hm hz [0, 1, 2, 3, 24, 25, 26] _ _ rfl rfl)⟩
            · have h := iteF hb26 h
              obtain ⟨r30, hr30, h⟩ := bindO h
              refine AOps_call [] 84 _ _ _ _ _ _ _ _ _ _ rfl rfl rfl rfl rfl rfl rfl Try.call113 rfl (nodupB_sound _ rfl) rfl rfl rfl (cloneA_ac p1 _ hb26 hr30) ?_
              rintro _ _ ⟨rfl, rfl⟩
              refine ⟨(allc (fun _ _ => trivial) (fun _ h => nomatch h)), (allc (trivial) (fun _ h => nomatch h)), AOps_as 84 (v' := .vec 3 0) (H' := [.ref (.vec 1 1), .vec 1 (intsD x7), .vec 0 (intsD s25), .vec 0 (intsD r30)]) rfl rfl ?_⟩
              refine AOps_q 85 _ rfl rfl rfl (QOp_move _ _ rfl rfl) ?_
              refine AOps_buildSlice 86 _ _ _ [_] (intsD ([(p2.getD x6.toNat 0)])) _ rfl rfl rfl rfl rfl (by decide) Try.underlying38 Try.sizeOf2 (zero_of Try.typeInfo2 rfl) rfl rfl (intsD_one _) ?_
              obtain ⟨hc31, h⟩ := guardO h
              refine AOps_append 87 _ _ _ _ _ _ _ _ _ _ _ _ rfl rfl rfl rfl rfl rfl rfl Try.underlying38 Try.type2 rfl rfl rfl (by decide) rfl rfl rfl rfl (intsD_one _) (by rw [intsD_length, intsD_length]; exact hc31) ?_
              rw [intsD_app]
              refine AOps_q 88 _ rfl rfl rfl (QOp_move _ _ rfl rfl) ?_
              refine AOps_q 89 _ rfl rfl rfl (QOp_move _ _ rfl rfl) ?_
              obtain ⟨r32, hr32, h⟩ := bindO h
              refine AOps_callL [0, 1] 90 _ _ _ _ _ _ _ _ _ _ rfl rfl rfl rfl rfl rfl rfl Try.call79 rfl (nodupB_sound _ rfl) rfl rfl rfl (hself p0 (r30 ++ ([(p2.getD x6.toNat 0)])) s25 x7 _ hr32) ?_
              rintro _ _ ⟨rfl, rfl⟩
              refine ⟨(allc (trivial) (allc (intsD_flat _) (fun _ h => nomatch h))), (fun _ h => nomatch h), AOps_as 90 (v' := .tup []) (H' := [.ref (.vec 1 2), .vec 2 (intsD r32), .vec 0 (intsD s25), .vec 1 (intsD (r30 ++ ([(p2.getD x6.toNat 0)]))), .vec 0 (intsD ([(p2.getD x6.toNat 0)]))]) rfl rfl ?_⟩
              refine AOps_nil ?_
              cases h
              exact ⟨_, rfl, Weak_trans (Weak_keep 2 hm [0, 1, 2, 3, 24, 25, 26] [] _ _ rfl rfl rfl) (Weak_reset 2 hm hz [0, 1, 2, 3, 24, 25, 26] _ _ rfl rfl)⟩
        rintro E' H' ⟨s33, rfl, hw⟩
        refine ACode_weak hw ?_
        have h := hks33
        refine (ACode_region ?_)
        refine AOps_q 91 _ rfl rfl rfl (QOp_add _ _ _ _ _ _ _ rfl rfl rfl) ?_
        refine AOps_q 26 _ rfl rfl rfl (QOp_move _ _ rfl rfl) ?_
        refine AOps_nil ?_
        exact ⟨k0, _, _, Nat.lt_succ_self _, Weak_keep 2 hm [0, 1, 2, 3, 24, 25, 26] [] _ _ rfl rfl rfl, _, _, rfl, rfl, h⟩
      · have h := iteF hb8 h
        refine ACode_exit ?_
        cases h
        exact ⟨_, _, fun r a w h => ⟨r, h⟩, _, _, [], _, .nil, rfl, rfl, rfl, rfl, rfl⟩

-- loop.example/g01362/impl.LesserPart
def impl_LesserPart (k : Nat) (p0 : Col) : Option (Option (List Int) × Int) :=
  (impl_Colouring_code k p0 (some (impl_always))).bind fun r1 => (if !decide (r1 = 0) then some (none, r1) else (impl_Colouring_points k p0).bind fun r3 => (impl_Colouring_lesser k p0 ([]) r3 ([] : List Int)).bind fun r4 => some (some r4, 0))
set_option maxRecDepth 100000 in
theorem impl_LesserPart_ac (k : Nat) (p0 : Col) (r : Option (List Int) × Int) (h : impl_LesserPart k p0 = some r) : AC Try.prog 37 [.d (.agg (colD p0))] [] (fun res H' => res = [ownA 0 (r.1.map intsD), iV r.2] ∧ H' = [] ++ ownH (r.1.map intsD)) := by
  refine AC_of_body false Try.func37 rfl Try.ntmps37 (rvs := [.tmp 2, .tmp 3]) rfl rfl (fun G hG => ?_)
  have hm : G.H.length = 0 := by rw [hG]; rfl
  have hz : zeroG G.H = true := by rw [hG]; rfl
  unfold impl_LesserPart at h
  refine ACode_seq (ACode_region ?_)
  refine AOps_boxI 1 _ _ (.agg (colD p0)) (colD p0) rfl (colD_one _) rfl rfl rfl rfl rfl ?_
  refine AOps_q 2 _ rfl rfl rfl (QOp_assign _ _ rfl rfl) ?_
  refine AOps_q 3 _ rfl rfl rfl (QOp_assign _ _ rfl rfl) ?_
  refine AOps_nil ?_
  refine ACode_seq ?_
  refine ACode_seq (ACode_region ?_)
  obtain ⟨r1, hr1, h⟩ := bindO h
  refine AOps_call [] 6 _ _ _ _ _ _ _ _ _ _ rfl rfl rfl rfl rfl rfl rfl Try.call59 rfl (nodupB_sound _ rfl) rfl rfl rfl (impl_Colouring_code_ac k p0 (some (impl_always)) 69 ([]) Try.call69 (fun r h => by cases h; exact impl_always_ac) _ hr1) ?_
  rintro _ _ ⟨rfl, rfl⟩
  refine ⟨(fun _ h => nomatch h), (allc (trivial) (fun _ h => nomatch h)), AOps_as 6 (v' := iV r1) (H' := []) rfl rfl ?_⟩
  refine AOps_q 4 _ rfl rfl rfl (QOp_assign _ _ rfl rfl) ?_
  refine AOps_nil ?_
  refine ACode_seq (ACode_region ?_)
  refine AOps_q 7 _ rfl rfl rfl (QOp_move _ _ rfl rfl) ?_
  refine AOps_q 8 _ rfl rfl rfl (QOp_neq _ _ _ _ _ _ _ rfl rfl rfl) ?_
  refine AOps_nil ?_
  refine ACode_cond _ rfl (fun hb2 => ?_) (fun hb2 => ?_)
  · have h := iteT hb2 h
    refine ACode_seq (ACode_region ?_)
    refine AOps_q 9 _ rfl rfl rfl (QOp_move _ _ rfl rfl) ?_
    refine AOps_q 2 _ rfl rfl rfl (QOp_assign _ _ rfl rfl) ?_
    refine AOps_q 3 _ rfl rfl rfl (QOp_assign _ _ rfl rfl) ?_
    refine AOps_nil ?_
    refine ACode_ret ?_
    cases h
    exact ⟨_, _, fun r a w h => ⟨r, h⟩, _, _, [], _, (.cons (ResV_tmp _ _ rfl) (.cons (ResV_tmp _ _ rfl) .nil)), rfl, rfl, rfl, rfl, rfl⟩
  · have h := iteF hb2 h
    refine ACode_skip ?_
    refine ACode_seq (ACode_region ?_)
    refine AOps_buildSlice 10 _ _ _ [] (intsD ([] : List Int)) _ rfl rfl rfl rfl rfl (by decide) Try.underlying38 Try.sizeOf2 (zero_of Try.typeInfo2 rfl) rfl rfl (intsD_one _) ?_
    refine AOps_alloc 5 _ _ ([.sl (some true) []]) (zero_of Try.typeInfo38 rfl) (by rfl) rfl rfl rfl rfl ?_
    refine AOps_storeR 1 _ _ _ _ _ rfl rfl rfl rfl rfl rfl rfl rfl Try.sizeOf38 (fun r a w hr => vec_one hr rfl rfl rfl) ?_
    refine AOps_nil ?_
    refine ACode_seq (ACode_region ?_)
    obtain ⟨r3, hr3, h⟩ := bindO h
    refine AOps_call [] 11 _ _ _ _ _ _ _ _ _ _ rfl rfl rfl rfl rfl rfl rfl Try.call80 rfl (nodupB_sound _ rfl) rfl rfl rfl (impl_Colouring_points_ac k p0 _ hr3) ?_
    rintro _ _ ⟨rfl, rfl⟩
    refine ⟨(allc (fun _ _ => trivial) (fun _ h => nomatch h)), (allc (trivial) (fun _ h => nomatch h)), AOps_as 11 (v' := .vec 2 0) (H' := [.vec 0 (intsD ([] : List Int)), .ref (.vec 0 0), .vec 0 (intsD r3)]) rfl rfl ?_⟩
    obtain ⟨r4, hr4, h⟩ := bindO h
    refine AOps_callL [1, 0] 12 _ _ _ _ _ _ _ _ _ _ rfl rfl rfl rfl rfl rfl rfl Try.call79 rfl (nodupB_sound _ rfl) rfl rfl rfl (impl_Colouring_lesser_ac k p0 ([]) r3 ([] : List Int) _ hr4) ?_
    rintro _ _ ⟨rfl, rfl⟩
    refine ⟨(allc (trivial) (allc (intsD_flat _) (fun _ h => nomatch h))), (fun _ h => nomatch h), AOps_as 12 (v' := .tup []) (H' := [.vec 1 (intsD r4), .ref (.vec 0 1), .vec 0 (intsD r3)]) rfl rfl ?_⟩
    refine AOps_nil ?_
    refine ACode_seq (ACode_region ?_)
    refine AOps_q 13 _ rfl rfl rfl (QOp_load_ref _ _ _ _ rfl Try.isAgg38 rfl rfl) ?_
    refine AOps_q 2 _ rfl rfl rfl (QOp_assign _ _ rfl rfl) ?_
    refine AOps_q 3 _ rfl rfl rfl (QOp_assign _ _ rfl rfl) ?_
    refine AOps_nil ?_
    refine ACode_ret ?_
    cases h
    exact ⟨_, _, Weak_reset 0 hm hz [2, 3] _ _ rfl rfl, _, _, [0], _, (.cons (ResV_tmp _ _ rfl) (.cons (ResV_tmp _ _ rfl) .nil)), rfl, rfl, rfl, rfl, rfl⟩

-- loop.example/g01362/laws.FnExactLesserPart
def laws_FnExactLesserPart (k : Nat) (p0 : Col) : Option (Bool) :=
  (laws_toColouring k p0).bind fun r1 => (spec_LesserPart k r1).bind fun r2 => (laws_toColouring k p0).bind fun r3 => (impl_LesserPart k r3).bind fun r4 => (match r4.1 with | none => (((laws_eqInt64S k ([]) r2.1).bind fun r7 => (if !r7 then some true else some (!decide (r4.2 = r2.2))) : Option (Bool)).bind fun s9 => (if s9 then some (.inr false) else some (.inl ())) : Option (Sum (Unit) (Bool))).bind fun os11 => (match os11 with | .inl s11 => (laws_markInt64S_d0 k ([]) 1).bind fun r12 => (laws_heldInt64S k ([]) 1).bind fun r13 => (if decide (r13 < 0) then some false else (if !decide (r13 = r12) then some false else (laws_toColouring k p0).bind fun r16 => (impl_LesserPart k r16).bind fun r17 => (match r17.1 with | none => (((laws_eqInt64S k ([]) r2.1).bind fun r20 => (if !r20 then some true else some (!decide (r17.2 = r2.2))) : Option (Bool)).bind fun s22 => (if s22 then some (.inr false) else some (.inl ())) : Option (Sum (Unit) (Bool))).bind fun os24 => (match os24 with | .inl s24 => (laws_heldInt64S k ([]) 1).bind fun r25 => (if decide (r25 < 0) then some false else (if !decide (r25 = r12) then some false else some true)) | .inr rr => some rr) | some l18 => (((laws_eqInt64S k l18 r2.1).bind fun r28 => (if !r28 then some true else some (!decide (r17.2 = r2.2))) : Option (Bool)).bind fun s30 => (if s30 then some (.inr false) else some (.inl ())) : Option (Sum (Unit) (Bool))).bind fun os32 => (match os32 with | .inl s32 => (laws_heldInt64S k ([]) 1).bind fun r33 => (if decide (r33 < 0) then some false else (if !decide (r33 = r12) then some false else some true)) | .inr rr => some rr)))) | .inr rr => some rr) | some l5 => (((laws_eqInt64S k l5 r2.1).bind fun r36 => (if !r36 then some true else some (!decide (r4.2 = r2.2))) : Option (Bool)).bind fun s38 => (if s38 then some (.inr false) else some (.inl ())) : Option (Sum (Unit) (Bool))).bind fun os40 => (match os40 with | .inl s40 => (laws_markInt64S k l5 1).bind fun r41 => (laws_heldInt64S k r41.2 1).bind fun r42 => (if decide (r42 < 0) then some false else (if !decide (r42 = r41.1) then some false else (laws_toColouring k p0).bind fun r45 => (impl_LesserPart k r45).bind fun r46 => (match r46.1 with | none => (((laws_eqInt64S k ([]) r2.1).bind fun r49 => (if !r49 then some true else some (!decide (r46.2 = r2.2))) : Option (Bool)).bind fun s51 => (if s51 then some (.inr false) else some (.inl ())) : Option (Sum (Unit) (Bool))).bind fun os53 => (match os53 with | .inl s53 => (laws_heldInt64S k r41.2 1).bind fun r54 => (if decide (r54 < 0) then some false else (if !decide (r54 = r41.1) then some false else some true)) | .inr rr => some rr) | some l47 => (((laws_eqInt64S k l47 r2.1).bind fun r57 => (if !r57 then some true else some (!decide (r46.2 = r2.2))) : Option (Bool)).bind fun s59 => (if s59 then some (.inr false) else some (.inl ())) : Option (Sum (Unit) (Bool))).bind fun os61 => (match os61 with | .inl s61 => (laws_heldInt64S k r41.2 1).bind fun r62 => (if decide (r62 < 0) then some false else (if !decide (r62 = r41.1) then some false else some true)) | .inr rr => some rr)))) | .inr rr => some rr))
set_option maxRecDepth 100000 in
theorem laws_FnExactLesserPart_ac (k : Nat) (p0 : Col) (r : Bool) (h : laws_FnExactLesserPart k p0 = some r) : AC Try.prog 9 [.d (.agg (colD p0))] [] (fun res H' => res = [bV r] ∧ H' = []) := by
  refine AC_of_body true Try.func9 rfl Try.ntmps9 (rvs := [.tmp 2]) rfl rfl (fun G hG => ?_)
  have hm : G.H.length = 0 := by rw [hG]; rfl
  have hz : zeroG G.H = true := by rw [hG]; rfl
  unfold laws_FnExactLesserPart at h
  refine ACode_seq (ACode_region ?_)
  refine AOps_boxI 1 _ _ (.agg (colD p0)) (colD p0) rfl (colD_one _) rfl rfl rfl rfl rfl ?_
  refine AOps_q 2 _ rfl rfl rfl (QOp_assign _ _ rfl rfl) ?_
  refine AOps_nil ?_
  refine ACode_seq (ACode_region ?_)
  refine AOps_q 12 _ rfl rfl rfl (QOp_loadN_pv _ _ _ _ _ _ rfl Try.isAgg37 Try.sizeOf37 rfl (colD_all _) (colD_length _)) ?_
  obtain ⟨r1, hr1, h⟩ := bindO h
  refine AOps_call [] 13 _ _ _ _ _ _ _ _ _ _ rfl rfl rfl rfl rfl rfl rfl Try.call24 rfl (nodupB_sound _ rfl) rfl rfl rfl (laws_toColouring_ac k p0 _ hr1) ?_
  rintro _ _ ⟨rfl, rfl⟩
  refine ⟨(fun _ h => nomatch h), (allc (trivial) (fun _ h => nomatch h)), AOps_as 13 (v' := .d (.agg (colD r1))) (H' := []) rfl rfl ?_⟩
  obtain ⟨r2, hr2, h⟩ := bindO h
  refine AOps_call [] 14 _ _ _ _ _ _ _ _ _ _ rfl rfl rfl rfl rfl rfl rfl Try.call36 rfl (nodupB_sound _ rfl) rfl rfl rfl (spec_LesserPart_ac k r1 _ hr2) ?_
  rintro _ _ ⟨rfl, rfl⟩
  refine ⟨(fun _ h => nomatch h), (allc (trivial) (allc (trivial) (fun _ h => nomatch h))), AOps_as 14 (v' := .tup [.d (.sl none (intsD r2.1)), iV r2.2]) (H' := []) rfl rfl ?_⟩
  refine AOps_q 11 _ rfl rfl rfl (QOp_move _ _ rfl rfl) ?_
  refine AOps_q 15 _ rfl rfl rfl (QOp_extract _ _ _ _ rfl rfl rfl) ?_
  refine AOps_q 16 _ rfl rfl rfl (QOp_extract _ _ _ _ rfl rfl rfl) ?_
  refine AOps_q 3 _ rfl rfl rfl (QOp_assign _ _ rfl rfl) ?_
  refine AOps_q 4 _ rfl rfl rfl (QOp_assign _ _ rfl rfl) ?_
  refine AOps_nil ?_
  refine ACode_seq (ACode_region ?_)
  refine AOps_q 18 _ rfl rfl rfl (QOp_loadN_pv _ _ _ _ _ _ rfl Try.isAgg37 Try.sizeOf37 rfl (colD_all _) (colD_length _)) ?_
  obtain ⟨r3, hr3, h⟩ := bindO h
  refine AOps_call [] 19 _ _ _ _ _ _ _ _ _ _ rfl rfl rfl rfl rfl rfl rfl Try.call24 rfl (nodupB_sound _ rfl) rfl rfl rfl (laws_toColouring_ac k p0 _ hr3) ?_
  rintro _ _ ⟨rfl, rfl⟩
  refine ⟨(fun _ h => nomatch h), (allc (trivial) (fun _ h => nomatch h)), AOps_as 19 (v' := .d (.agg (colD r3))) (H' := []) rfl rfl ?_⟩
  obtain ⟨r4, hr4, h⟩ := bindO h
  refine AOps_call [] 20 _ _ _ _ _ _ _ _ _ _ rfl rfl rfl rfl rfl rfl rfl Try.call37 rfl (nodupB_sound _ rfl) rfl rfl rfl (impl_LesserPart_ac k r3 _ hr4) ?_
  revert h
  cases hx6 : r4.1 with
  | none =>
    intro h
    rintro _ _ ⟨rfl, rfl⟩
    refine ⟨(fun _ h => nomatch h), (allc (trivial) (allc (trivial) (fun _ h => nomatch h))), AOps_as 20 (v' := .tup [.d (.sl (some true) []), iV r4.2]) (H' := []) rfl rfl ?_⟩
    refine AOps_q 17 _ rfl rfl rfl (QOp_move _ _ rfl rfl) ?_
    refine AOps_q 21 _ rfl rfl rfl (QOp_extract _ _ _ _ rfl rfl rfl) ?_
    refine AOps_q 22 _ rfl rfl rfl (QOp_extract _ _ _ _ rfl rfl rfl) ?_
    refine AOps_q 5 _ rfl rfl rfl (QOp_assign _ _ rfl rfl) ?_
    refine AOps_q 6 _ rfl rfl rfl (QOp_assign _ _ rfl rfl) ?_
    refine AOps_nil ?_
    obtain ⟨os11, hss11, hks11⟩ := bindO h
    clear h
    refine ACode_seqJ (fun E' H' => ∃ s11 : Unit, os11 = .inl s11 ∧ Weak 66 G E' H' [(1, .d (.pv (colD p0) 0)), (3, .d (.sl none (intsD r2.1))), (4, iV r2.2), (5, .d (.sl (some true) []))] []) ?_ ?_
    · have h := hss11
      clear hss11
      obtain ⟨s9, hss9, hks9⟩ := bindO h
      clear h
      refine ACode_seqJ (fun E' H' => Weak 66 G E' H' [(1, .d (.pv (colD p0) 0)), (3, .d (.sl none (intsD r2.1))), (4, iV r2.2), (5, .d (.sl (some true) [])), (31, bV s9)] []) ?_ ?_
      · have h := hss9
        clear hss9
        refine (ACode_region ?_)
        refine AOps_q 23 _ rfl rfl rfl (QOp_move _ _ rfl rfl) ?_
        refine AOps_q 24 _ rfl rfl rfl (QOp_move _ _ rfl rfl) ?_
        obtain ⟨r7, hr7, h⟩ := bindO h
        refine AOps_call [] 25 _ _ _ _ _ _ _ _ _ _ rfl rfl rfl rfl rfl rfl rfl Try.call27 rfl (nodupB_sound _ rfl) rfl rfl rfl (laws_eqInt64S_ac k ([]) r2.1 _ hr7) ?_
        rintro _ _ ⟨rfl, rfl⟩
        refine ⟨(fun _ h => nomatch h), (allc (trivial) (fun _ h => nomatch h)), AOps_as 25 (v' := bV r7) (H' := []) rfl rfl ?_⟩
        refine AOps_q 26 _ rfl rfl rfl (QOp_not _ _ _ rfl rfl) ?_
        refine AOps_q 27 _ rfl rfl rfl (QOp_move _ _ rfl rfl) ?_
        refine AOps_case 27 _ rfl (fun hb8 => ?_) (fun hb8 => ?_)
        · have h := iteT hb8 h
          refine AOps_skip 28 rfl rfl rfl ?_
          refine AOps_skip 29 rfl rfl rfl ?_
          refine AOps_skip 30 rfl rfl rfl ?_
          refine AOps_q 31 _ rfl rfl rfl (QOp_pick_t _ _ _ _ rfl rfl rfl) ?_
          refine AOps_nil ?_
          cases h
          exact Weak_keep 0 hm [1, 3, 4, 5, 31] [] _ _ rfl rfl rfl
        · have h := iteF hb8 h
          refine AOps_q 28 _ rfl rfl rfl (QOp_move _ _ rfl rfl) ?_
          refine AOps_q 29 _ rfl rfl rfl (QOp_move _ _ rfl rfl) ?_
          refine AOps_q 30 _ rfl rfl rfl (QOp_neq _ _ _ _ _ _ _ rfl rfl rfl) ?_
          refine AOps_q 31 _ rfl rfl rfl (QOp_pick_f _ _ _ _ rfl rfl rfl) ?_
          refine AOps_nil ?_
          cases h
          exact Weak_keep 0 hm [1, 3, 4, 5, 31] [] _ _ rfl rfl rfl
      intro E' H' hw
      refine ACode_weak hw ?_
      have h := hks9
      refine ACode_cond _ rfl (fun hb10 => ?_) (fun hb10 => ?_)
      · have h := iteT hb10 h
        refine ACode_seq (ACode_region ?_)
        refine AOps_q 2 _ rfl rfl rfl (QOp_assign _ _ rfl rfl) ?_
        refine AOps_nil ?_
        refine ACode_ret ?_
        cases h
        have h := hks11
        cases h
        exact ⟨_, _, fun r a w h => ⟨r, h⟩, _, _, [], _, (.cons (ResV_tmp _ _ rfl) .nil), rfl, rfl, rfl, rfl, rfl⟩
      · have h := iteF hb10 h
        refine ACode_skip ?_
        cases h
        exact ⟨_, rfl, Weak_keep 0 hm [1, 3, 4, 5] [] _ _ rfl rfl rfl⟩
    rintro E' H' ⟨s11, rfl, hw⟩
    refine ACode_weak hw ?_
    have h := hks11
    refine ACode_seq (ACode_region ?_)
    refine AOps_q 7 _ rfl rfl rfl (QOp_assign _ _ rfl rfl) ?_
    refine AOps_nil ?_
    refine ACode_seq (ACode_region ?_)
    refine AOps_q 32 _ rfl rfl rfl (QOp_move _ _ rfl rfl) ?_
    refine AOps_q 33 _ rfl rfl rfl (QOp_move _ _ rfl rfl) ?_
    obtain ⟨r12, hr12, h⟩ := bindO h
    refine AOps_call [] 34 _ _ _ _ _ _ _ _ _ _ rfl rfl rfl rfl rfl rfl rfl Try.call30 rfl (nodupB_sound _ rfl) rfl rfl rfl (laws_markInt64S_d0_ac k ([]) 1 _ hr12) ?_
    rintro _ _ ⟨rfl, rfl⟩
    refine ⟨(fun _ h => nomatch h), (allc (trivial) (fun _ h => nomatch h)), AOps_as 34 (v' := iV r12) (H' := []) rfl rfl ?_⟩
    refine AOps_q 7 _ rfl rfl rfl (QOp_assign _ _ rfl rfl) ?_
    refine AOps_nil ?_
    refine ACode_seq (ACode_region ?_)
    refine AOps_q 8 _ rfl rfl rfl (QOp_assign _ _ rfl rfl) ?_
    refine AOps_nil ?_
    refine ACode_seq (ACode_region ?_)
    refine AOps_q 35 _ rfl rfl rfl (QOp_move _ _ rfl rfl) ?_
    refine AOps_q 36 _ rfl rfl rfl (QOp_move _ _ rfl rfl) ?_
    obtain ⟨r13, hr13, h⟩ := bindO h
    refine AOps_call [] 37 _ _ _ _ _ _ _ _ _ _ rfl rfl rfl rfl rfl rfl rfl Try.call31 rfl (nodupB_sound _ rfl) rfl rfl rfl (laws_heldInt64S_ac k ([]) 1 _ hr13) ?_
    rintro _ _ ⟨rfl, rfl⟩
    refine ⟨(fun _ h => nomatch h), (allc (trivial) (fun _ h => nomatch h)), AOps_as 37 (v' := iV r13) (H' := []) rfl rfl ?_⟩
    refine AOps_q 8 _ rfl rfl rfl (QOp_assign _ _ rfl rfl) ?_
    refine AOps_nil ?_
    refine ACode_seq ?_
    refine ACode_seq (ACode_region ?_)
    refine AOps_q 38 _ rfl rfl rfl (QOp_move _ _ rfl rfl) ?_
    refine AOps_q 39 _ rfl rfl rfl (QOp_lss _ _ _ _ _ _ _ rfl rfl rfl) ?_
    refine AOps_nil ?_
    refine ACode_cond _ rfl (fun hb14 => ?_) (fun hb14 => ?_)
    · have h := iteT hb14 h
      refine ACode_seq (ACode_region ?_)
      refine AOps_q 2 _ rfl rfl rfl (QOp_assign _ _ rfl rfl) ?_
      refine AOps_nil ?_
      refine ACode_ret ?_
      cases h
      exact ⟨_, _, fun r a w h => ⟨r, h⟩, _, _, [], _, (.cons (ResV_tmp _ _ rfl) .nil), rfl, rfl, rfl, rfl, rfl⟩
    · have h := iteF hb14 h
      refine ACode_skip ?_
      refine ACode_seq ?_
      refine ACode_seq (ACode_region ?_)
      refine AOps_q 40 _ rfl rfl rfl (QOp_move _ _ rfl rfl) ?_
      refine AOps_q 41 _ rfl rfl rfl (QOp_move _ _ rfl rfl) ?_
      refine AOps_q 42 _ rfl rfl rfl (QOp_neq _ _ _ _ _ _ _ rfl rfl rfl) ?_
      refine AOps_nil ?_
      refine ACode_cond _ rfl (fun hb15 => ?_) (fun hb15 => ?_)
      · have h := iteT hb15 h
        refine ACode_seq (ACode_region ?_)
        refine AOps_q 2 _ rfl rfl rfl (QOp_assign _ _ rfl rfl) ?_
        refine AOps_nil ?_
        refine ACode_ret ?_
        cases h
        exact ⟨_, _, fun r a w h => ⟨r, h⟩, _, _, [], _, (.cons (ResV_tmp _ _ rfl) .nil), rfl, rfl, rfl, rfl, rfl⟩
      · have h := iteF hb15 h
        refine ACode_skip ?_
        refine ACode_seq (ACode_region ?_)
        refine AOps_q 44 _ rfl rfl rfl (QOp_loadN_pv _ _ _ _ _ _ rfl Try.isAgg37 Try.sizeOf37 rfl (colD_all _) (colD_length _)) ?_
        obtain ⟨r16, hr16, h⟩ := bindO h
        refine AOps_call [] 45 _ _ _ _ _ _ _ _ _ _ rfl rfl rfl rfl rfl rfl rfl Try.call24 rfl (nodupB_sound _ rfl) rfl rfl rfl (laws_toColouring_ac k p0 _ hr16) ?_
        rintro _ _ ⟨rfl, rfl⟩
        refine ⟨(fun _ h => nomatch h), (allc (trivial) (fun _ h => nomatch h)), AOps_as 45 (v' := .d (.agg (colD r16))) (H' := []) rfl rfl ?_⟩
        obtain ⟨r17, hr17, h⟩ := bindO h
        refine AOps_call [] 46 _ _ _ _ _ _ _ _ _ _ rfl rfl rfl rfl rfl rfl rfl Try.call37 rfl (nodupB_sound _ rfl) rfl rfl rfl (impl_LesserPart_ac k r16 _ hr17) ?_
        revert h
        cases hx19 : r17.1 with
        | none =>
          intro h
          rintro _ _ ⟨rfl, rfl⟩
          refine ⟨(fun _ h => nomatch h), (allc (trivial) (allc (trivial) (fun _ h => nomatch h))), AOps_as 46 (v' := .tup [.d (.sl (some true) []), iV r17.2]) (H' := []) rfl rfl ?_⟩
          refine AOps_q 43 _ rfl rfl rfl (QOp_move _ _ rfl rfl) ?_
          refine AOps_q 47 _ rfl rfl rfl (QOp_extract _ _ _ _ rfl rfl rfl) ?_
          refine AOps_q 48 _ rfl rfl rfl (QOp_extract _ _ _ _ rfl rfl rfl) ?_
          refine AOps_q 9 _ rfl rfl rfl (QOp_assign _ _ rfl rfl) ?_
          refine AOps_q 10 _ rfl rfl rfl (QOp_assign _ _ rfl rfl) ?_
          refine AOps_nil ?_
          obtain ⟨os24, hss24, hks24⟩ := bindO h
          clear h
          refine ACode_seqJ (fun E' H' => ∃ s24 : Unit, os24 = .inl s24 ∧ Weak 66 G E' H' [(5, .d (.sl (some true) [])), (7, iV r12)] []) ?_ ?_
          · have h := hss24
            clear hss24
            obtain ⟨s22, hss22, hks22⟩ := bindO h
            clear h
            refine ACode_seqJ (fun E' H' => Weak 66 G E' H' [(5, .d (.sl (some true) [])), (7, iV r12), (57, bV s22)] []) ?_ ?_
            · have h := hss22
              clear hss22
              refine (ACode_region ?_)
              refine AOps_q 49 _ rfl rfl rfl (QOp_move _ _ rfl rfl) ?_
              refine AOps_q 50 _ rfl rfl rfl (QOp_move _ _ rfl rfl) ?_
              obtain ⟨r20, hr20, h⟩ := bindO h
              refine AOps_call [] 51 _ _ _ _ _ _ _ _ _ _ rfl rfl rfl rfl rfl rfl rfl Try.call27 rfl (nodupB_sound _ rfl) rfl rfl rfl (laws_eqInt64S_ac k ([]) r2.1 _ hr20) ?_
              rintro _ _ ⟨rfl, rfl⟩
              refine ⟨(fun _ h => nomatch h), (allc (trivial) (fun _ h => nomatch h)), AOps_as 51 (v' := bV r20) (H' := []) rfl rfl ?_⟩
              refine AOps_q 52 _ rfl rfl rfl (QOp_not _ _ _ rfl rfl) ?_
              refine AOps_q 53 _ rfl rfl rfl (QOp_move _ _ rfl rfl) ?_
              refine AOps_case 53 _ rfl (fun hb21 => ?_) (fun hb21 => ?_)
              · have h := iteT hb21 h
                refine AOps_skip 54 rfl rfl rfl ?_
                refine AOps_skip 55 rfl rfl rfl ?_
                refine AOps_skip 56 rfl rfl rfl ?_
                refine AOps_q 57 _ rfl rfl rfl (QOp_pick_t _ _ _ _ rfl rfl rfl) ?_
                refine AOps_nil ?_
                cases h
                exact Weak_keep 0 hm [5, 7, 57] [] _ _ rfl rfl rfl
              · have h := iteF hb21 h
                refine AOps_q 54 _ rfl rfl rfl (QOp_move _ _ rfl rfl) ?_
                refine AOps_q 55 _ rfl rfl rfl (QOp_move _ _ rfl rfl) ?_
                refine AOps_q 56 _ rfl rfl rfl (QOp_neq _ _ _ _ _ _ _ rfl rfl rfl) ?_
                refine AOps_q 57 _ rfl rfl rfl (QOp_pick_f _ _ _ _ rfl rfl rfl) ?_
                refine AOps_nil ?_
                cases h
                exact Weak_keep 0 hm [5, 7, 57] [] _ _ rfl rfl rfl
            intro E' H' hw
            refine ACode_weak hw ?_
            have h := hks22
            refine ACode_cond _ rfl (fun hb23 => ?_) (fun hb23 => ?_)
            · have h := iteT hb23 h
              refine ACode_seq (ACode_region ?_)
              refine AOps_q 2 _ rfl rfl rfl (QOp_assign _ _ rfl rfl) ?_
              refine AOps_nil ?_
              refine ACode_ret ?_
              cases h
              have h := hks24
              cases h
              exact ⟨_, _, fun r a w h => ⟨r, h⟩, _, _, [], _, (.cons (ResV_tmp _ _ rfl) .nil), rfl, rfl, rfl, rfl, rfl⟩
            · have h := iteF hb23 h
              refine ACode_skip ?_
              cases h
              exact ⟨_, rfl, Weak_keep 0 hm [5, 7] [] _ _ rfl rfl rfl⟩
          rintro E' H' ⟨s24, rfl, hw⟩
          refine ACode_weak hw ?_
          have h := hks24
          refine ACode_seq (ACode_region ?_)
          refine AOps_q 8 _ rfl rfl rfl (QOp_assign _ _ rfl rfl) ?_
          refine AOps_nil ?_
          refine ACode_seq (ACode_region ?_)
          refine AOps_q 58 _ rfl rfl rfl (QOp_move _ _ rfl rfl) ?_
          refine AOps_q 59 _ rfl rfl rfl (QOp_move _ _ rfl rfl) ?_
          obtain ⟨r25, hr25, h⟩ := bindO h
          refine AOps_call [] 60 _ _ _ _ _ _ _ _ _ _ rfl rfl rfl rfl rfl rfl rfl Try.call31 rfl (nodupB_sound _ rfl) rfl rfl rfl (laws_heldInt64S_ac k ([]) 1 _ hr25) ?_
          rintro _ _ ⟨rfl, rfl⟩
          refine ⟨(fun _ h => nomatch h), (allc (trivial) (fun _ h => nomatch h)), AOps_as 60 (v' := iV r25) (H' := []) rfl rfl ?_⟩
          refine AOps_q 8 _ rfl rfl rfl (QOp_assign _ _ rfl rfl) ?_
          refine AOps_nil ?_
          refine ACode_seq ?_
          refine ACode_seq (ACode_region ?_)
          refine AOps_q 61 _ rfl rfl rfl (QOp_move _ _ rfl rfl) ?_
          refine AOps_q 62 _ rfl rfl rfl (QOp_lss _ _ _ _ _ _ _ rfl rfl rfl) ?_
          refine AOps_nil ?_
          refine ACode_cond _ rfl (fun hb26 => ?_) (fun hb26 => ?_)
          · have h := iteT hb26 h
            refine ACode_seq (ACode_region ?_)
            refine AOps_q 2 _ rfl rfl rfl (QOp_assign _ _ rfl rfl) ?_
            refine AOps_nil ?_
            refine ACode_ret ?_
            cases h
            exact ⟨_, _, fun r a w h => ⟨r, h⟩, _, _, [], _, (.cons (ResV_tmp _ _ rfl) .nil), rfl, rfl, rfl, rfl, rfl⟩
          · have h := iteF hb26 h
            refine ACode_skip ?_
            refine ACode_seq ?_
            refine ACode_seq (ACode_region ?_)
            refine AOps_q 63 _ rfl rfl rfl (QOp_move _ _ rfl rfl) ?_
            refine AOps_q 64 _ rfl rfl rfl (QOp_move _ _ rfl rfl) ?_
            refine AOps_q 65 _ rfl rfl rfl (QOp_neq _ _ _ _ _ _ _ rfl rfl rfl) ?_
            refine AOps_nil ?_
            refine ACode_cond _ rfl (fun hb27 => ?_) (fun hb27 => ?_)
            · have h := iteT hb27 h
              refine ACode_seq (ACode_region ?_)
              refine AOps_q 2 _ rfl rfl rfl (QOp_assign _ _ rfl rfl) ?_
              refine AOps_nil ?_
              refine ACode_ret ?_
              cases h
              exact ⟨_, _, fun r a w h => ⟨r, h⟩, _, _, [], _, (.cons (ResV_tmp _ _ rfl) .nil), rfl, rfl, rfl, rfl, rfl⟩
            · have h := iteF hb27 h
              refine ACode_skip ?_
              refine ACode_seq (ACode_region ?_)
              refine AOps_q 2 _ rfl rfl rfl (QOp_assign _ _ rfl rfl) ?_
              refine AOps_nil ?_
              refine ACode_ret ?_
              cases h
              exact ⟨_, _, fun r a w h => ⟨r, h⟩, _, _, [], _, (.cons (ResV_tmp _ _ rfl) .nil), rfl, rfl, rfl, rfl, rfl⟩
        | some l18 =>
          intro h
          rintro _ _ ⟨rfl, rfl⟩
          refine ⟨(allc (fun _ _ => trivial) (fun _ h => nomatch h)), (allc (trivial) (allc (trivial) (fun _ h => nomatch h))), AOps_as 46 (v' := .tup [.vec 0 0, iV r17.2]) (H' := [.vec 0 (intsD l18)]) rfl rfl ?_⟩
          refine AOps_q 43 _ rfl rfl rfl (QOp_move _ _ rfl rfl) ?_
          refine AOps_q 47 _ rfl rfl rfl (QOp_extract _ _ _ _ rfl rfl rfl) ?_
          refine AOps_q 48 _ rfl rfl rfl (QOp_extract _ _ _ _ rfl rfl rfl) ?_
          refine AOps_q 9 _ rfl rfl rfl (QOp_assign _ _ rfl rfl) ?_
          refine AOps_q 10 _ rfl rfl rfl (QOp_assign _ _ rfl rfl) ?_
          refine AOps_nil ?_
          obtain ⟨os32, hss32, hks32⟩ := bindO h
          clear h
          refine ACode_seqJ (fun E' H' => ∃ s32 : Unit, os32 = .inl s32 ∧ Weak 66 G E' H' [(5, .d (.sl (some true) [])), (7, iV r12)] []) ?_ ?_
          · have h := hss32
            clear hss32
            obtain ⟨s30, hss30, hks30⟩ := bindO h
            clear h
            refine ACode_seqJ (fun E' H' => Weak 66 G E' H' [(5, .d (.sl (some true) [])), (7, iV r12), (57, bV s30)] []) ?_ ?_
            · have h := hss30
              clear hss30
              refine (ACode_region ?_)
              refine AOps_q 49 _ rfl rfl rfl (QOp_move _ _ rfl rfl) ?_
              refine AOps_q 50 _ rfl rfl rfl (QOp_move _ _ rfl rfl) ?_
              obtain ⟨r28, hr28, h⟩ := bindO h
              refine AOps_callL [] 51 _ _ _ _ _ _ _ _ _ _ rfl rfl rfl rfl rfl rfl rfl Try.call27 rfl (nodupB_sound _ rfl) rfl rfl rfl (laws_eqInt64S_ac k l18 r2.1 _ hr28) ?_
              rintro _ _ ⟨rfl, rfl⟩
              refine ⟨(fun _ h => nomatch h), (allc (flat_s _) (fun _ h => nomatch h)), AOps_as 51 (v' := bV r28) (H' := [.vec 0 (intsD l18)]) rfl rfl ?_⟩
              refine AOps_q 52 _ rfl rfl rfl (QOp_not _ _ _ rfl rfl) ?_
              refine AOps_q 53 _ rfl rfl rfl (QOp_move _ _ rfl rfl) ?_
              refine AOps_case 53 _ rfl (fun hb29 => ?_) (fun hb29 => ?_)
              · have h := iteT hb29 h
                refine AOps_skip 54 rfl rfl rfl ?_
                refine AOps_skip 55 rfl rfl rfl ?_
                refine AOps_skip 56 rfl rfl rfl ?_
                refine AOps_q 57 _ rfl rfl rfl (QOp_pick_t _ _ _ _ rfl rfl rfl) ?_
                refine AOps_nil ?_
                cases h
                exact Weak_keep 0 hm [5, 7, 57] [] _ _ rfl rfl rfl
              · have h := iteF hb29 h
                refine AOps_q 54 _ rfl rfl rfl (QOp_move _ _ rfl rfl) ?_
                refine AOps_q 55 _ rfl rfl rfl (QOp_move _ _ rfl rfl) ?_
                refine AOps_q 56 _ rfl rfl rfl (QOp_neq _ _ _ _ _ _ _ rfl rfl rfl) ?_
                refine AOps_q 57 _ rfl rfl rfl (QOp_pick_f _ _ _ _ rfl rfl rfl) ?_
                refine AOps_nil ?_
                cases h
                exact Weak_keep 0 hm [5, 7, 57] [] _ _ rfl rfl rfl
            intro E' H' hw
            refine ACode_weak hw ?_
            have h := hks30
            refine ACode_cond _ rfl (fun hb31 => ?_) (fun hb31 => ?_)
            · have h := iteT hb31 h
              refine ACode_seq (ACode_region ?_)
              refine AOps_q 2 _ rfl rfl rfl (QOp_assign _ _ rfl rfl) ?_
              refine AOps_nil ?_
              refine ACode_ret ?_
              cases h
              have h := hks32
              cases h
              exact ⟨_, _, fun r a w h => ⟨r, h⟩, _, _, [], _, (.cons (ResV_tmp _ _ rfl) .nil), rfl, rfl, rfl, rfl, rfl⟩
            · have h := iteF hb31 h
              refine ACode_skip ?_
              cases h
              exact ⟨_, rfl, Weak_keep 0 hm [5, 7] [] _ _ rfl rfl rfl⟩
          rintro E' H' ⟨s32, rfl, hw⟩
          refine ACode_weak hw ?_
          have h := hks32
          refine ACode_seq (ACode_region ?_)
          refine AOps_q 8 _ rfl rfl rfl (QOp_assign _ _ rfl rfl) ?_
          refine AOps_nil ?_
          refine ACode_seq (ACode_region ?_)
          refine AOps_q 58 _ rfl rfl rfl (QOp_move _ _ rfl rfl) ?_
          refine AOps_q 59 _ rfl rfl rfl (QOp_move _ _ rfl rfl) ?_
          obtain ⟨r33, hr33, h⟩ := bindO h
          refine AOps_call [] 60 _ _ _ _ _ _ _ _ _ _ rfl rfl rfl rfl rfl rfl rfl Try.call31 rfl (nodupB_sound _ rfl) rfl rfl rfl (laws_heldInt64S_ac k ([]) 1 _ hr33) ?_
          rintro _ _ ⟨rfl, rfl⟩
          refine ⟨(fun _ h => nomatch h), (allc (trivial) (fun _ h => nomatch h)), AOps_as 60 (v' := iV r33) (H' := []) rfl rfl ?_⟩
          refine AOps_q 8 _ rfl rfl rfl (QOp_assign _ _ rfl rfl) ?_
          refine AOps_nil ?_
          refine ACode_seq ?_
          refine ACode_seq (ACode_region ?_)
          refine AOps_q 61 _ rfl rfl rfl (QOp_move _ _ rfl rfl) ?_
          refine AOps_q 62 _ rfl rfl rfl (QOp_lss _ _ _ _ _ _ _ rfl rfl rfl) ?_
          refine AOps_nil ?_
          refine ACode_cond _ rfl (fun hb34 => ?_) (fun hb34 => ?_)
          · have h := iteT hb34 h
            refine ACode_seq (ACode_region ?_)
            refine AOps_q 2 _ rfl rfl rfl (QOp_assign _ _ rfl rfl) ?_
            refine AOps_nil ?_
            refine ACode_ret ?_
            cases h
            exact ⟨_, _, fun r a w h => ⟨r, h⟩, _, _, [], _, (.cons (ResV_tmp _ _ rfl) .nil), rfl, rfl, rfl, rfl, rfl⟩
          · have h := iteF hb34 h
            refine ACode_skip ?_
            refine ACode_seq ?_
            refine ACode_seq (ACode_region ?_)
            refine AOps_q 63 _ rfl rfl rfl (QOp_move _ _ rfl rfl) ?_
            refine AOps_q 64 _ rfl rfl rfl (QOp_move _ _ rfl rfl) ?_
            refine AOps_q 65 _ rfl rfl rfl (QOp_neq _ _ _ _ _ _ _ rfl rfl rfl) ?_
            refine AOps_nil ?_
            refine ACode_cond _ rfl (fun hb35 => ?_) (fun hb35 => ?_)
            · have h := iteT hb35 h
              refine ACode_seq (ACode_region ?_)
              refine AOps_q 2 _ rfl rfl rfl (QOp_assign _ _ rfl rfl) ?_
              refine AOps_nil ?_
              refine ACode_ret ?_
              cases h
              exact ⟨_, _, fun r a w h => ⟨r, h⟩, _, _, [], _, (.cons (ResV_tmp _ _ rfl) .nil), rfl, rfl, rfl, rfl, rfl⟩
            · have h := iteF hb35 h
              refine ACode_skip ?_
              refine ACode_seq (ACode_region ?_)
              refine AOps_q 2 _ rfl rfl rfl (QOp_assign _ _ rfl rfl) ?_
              refine AOps_nil ?_
              refine ACode_ret ?_
              cases h
              exact ⟨_, _, fun r a w h => ⟨r, h⟩, _, _, [], _, (.cons (ResV_tmp _ _ rfl) .nil), rfl, rfl, rfl, rfl, rfl⟩
  | some l5 =>
    intro h
    rintro _ _ ⟨rfl, rfl⟩
    refine ⟨(allc (fun _ _ => trivial) (fun _ h => nomatch h)), (allc (trivial) (allc (trivial) (fun _ h => nomatch h))), AOps_as 20 (v' := .tup [.vec 0 0, iV r4.2]) (H' := [.vec 0 (intsD l5)]) rfl rfl ?_⟩
    refine AOps_q 17 _ rfl rfl rfl (QOp_move _ _ rfl rfl) ?_
    refine AOps_q 21 _ rfl rfl rfl (QOp_extract _ _ _ _ rfl rfl rfl) ?_
    refine AOps_q 22 _ rfl rfl rfl (QOp_extract _ _ _ _ rfl rfl rfl) ?_
    refine AOps_q 5 _ rfl rfl rfl (QOp_assign _ _ rfl rfl) ?_
    refine AOps_q 6 _ rfl rfl rfl (QOp_assign _ _ rfl rfl) ?_
    refine AOps_nil ?_
    obtain ⟨os40, hss40, hks40⟩ := bindO h
    clear h
    refine ACode_seqJ (fun E' H' => ∃ s40 : Unit, os40 = .inl s40 ∧ Weak 66 G E' H' [(1, .d (.pv (colD p0) 0)), (3, .d (.sl none (intsD r2.1))), (4, iV r2.2), (5, .vec 0 0)] [.vec 0 (intsD l5)]) ?_ ?_
    · have h := hss40
      clear hss40
      obtain ⟨s38, hss38, hks38⟩ := bindO h
      clear h
      refine ACode_seqJ (fun E' H' => Weak 66 G E' H' [(1, .d (.pv (colD p0) 0)), (3, .d (.sl none (intsD r2.1))), (4, iV r2.2), (5, .vec 0 0), (31, bV s38)] [.vec 0 (intsD l5)]) ?_ ?_
      · have h := hss38
        clear hss38
        refine (ACode_region ?_)
        refine AOps_q 23 _ rfl rfl rfl (QOp_move _ _ rfl rfl) ?_
        refine AOps_q 24 _ rfl rfl rfl (QOp_move _ _ rfl rfl) ?_
        obtain ⟨r36, hr36, h⟩ := bindO h
        refine AOps_callL [] 25 _ _ _ _ _ _ _ _ _ _ rfl rfl rfl rfl rfl rfl rfl Try.call27 rfl (nodupB_sound _ rfl) rfl rfl rfl (laws_eqInt64S_ac k l5 r2.1 _ hr36) ?_
        rintro _ _ ⟨rfl, rfl⟩
        refine ⟨(fun _ h => nomatch h), (allc (flat_s _) (fun _ h => nomatch h)), AOps_as 25 (v' := bV r36) (H' := [.vec 0 (intsD l5)]) rfl rfl ?_⟩
        refine AOps_q 26 _ rfl rfl rfl (QOp_not _ _ _ rfl rfl) ?_
        refine AOps_q 27 _ rfl rfl rfl (QOp_move _ _ rfl rfl) ?_
        refine AOps_case 27 _ rfl (fun hb37 => ?_) (fun hb37 => ?_)
        · have h := iteT hb37 h
          refine AOps_skip 28 rfl rfl rfl ?_
          refine AOps_skip 29 rfl rfl rfl ?_
          refine AOps_skip 30 rfl rfl rfl ?_
          refine AOps_q 31 _ rfl rfl rfl (QOp_pick_t _ _ _ _ rfl rfl rfl) ?_
          refine AOps_nil ?_
          cases h
          exact Weak_keep 0 hm [1, 3, 4, 5, 31] [0] _ _ rfl rfl rfl
        · have h := iteF hb37 h
          refine AOps_q 28 _ rfl rfl rfl (QOp_move _ _ rfl rfl) ?_
          refine AOps_q 29 _ rfl rfl rfl (QOp_move _ _ rfl rfl) ?_
          refine AOps_q 30 _ rfl rfl rfl (QOp_neq _ _ _ _ _ _ _ rfl rfl rfl) ?_
          refine AOps_q 31 _ rfl rfl rfl (QOp_pick_f _ _ _ _ rfl rfl rfl) ?_
          refine AOps_nil ?_
          cases h
          exact Weak_keep 0 hm [1, 3, 4, 5, 31] [0] _ _ rfl rfl rfl
      intro E' H' hw
      refine ACode_weak hw ?_
      have h := hks38
      refine ACode_cond _ rfl (fun hb39 => ?_) (fun hb39 => ?_)
      · have h := iteT hb39 h
        refine ACode_seq (ACode_region ?_)
        refine AOps_q 2 _ rfl rfl rfl (QOp_assign _ _ rfl rfl) ?_
        refine AOps_nil ?_
        refine ACode_ret ?_
        cases h
        have h := hks40
        cases h
        exact ⟨_, _, fun r a w h => ⟨r, h⟩, _, _, [], _, (.cons (ResV_tmp _ _ rfl) .nil), rfl, rfl, rfl, rfl, rfl⟩
      · have h := iteF hb39 h
        refine ACode_skip ?_
        cases h
        exact ⟨_, rfl, Weak_keep 0 hm [1, 3, 4, 5] [0] _ _ rfl rfl rfl⟩
    rintro E' H' ⟨s40, rfl, hw⟩
    refine ACode_weak hw ?_
    have h := hks40
    refine ACode_seq (ACode_region ?_)
    refine AOps_q 7 _ rfl rfl rfl (QOp_assign _ _ rfl rfl) ?_
    refine AOps_nil ?_
    refine ACode_seq (ACode_region ?_)
    refine AOps_q 32 _ rfl rfl rfl (QOp_move _ _ rfl rfl) ?_
    refine AOps_q 33 _ rfl rfl rfl (QOp_move _ _ rfl rfl) ?_
    obtain ⟨r41, hr41, h⟩ := bindO h
    refine AOps_call [0] 34 _ _ _ _ _ _ _ _ _ _ rfl rfl rfl rfl rfl rfl rfl Try.call30 rfl (nodupB_sound _ rfl) rfl rfl rfl (laws_markInt64S_ac k l5 1 _ hr41) ?_
    rintro _ _ ⟨rfl, rfl⟩
    refine ⟨(allc (fun _ _ => trivial) (fun _ h => nomatch h)), (allc (trivial) (fun _ h => nomatch h)), AOps_as 34 (v' := iV r41.1) (H' := [.vec 0 (intsD r41.2)]) rfl rfl ?_⟩
    refine AOps_q 7 _ rfl rfl rfl (QOp_assign _ _ rfl rfl) ?_
    refine AOps_nil ?_
    refine ACode_seq (ACode_region ?_)
    refine AOps_q 8 _ rfl rfl rfl (QOp_assign _ _ rfl rfl) ?_
    refine AOps_nil ?_
    refine ACode_seq (ACode_region ?_)
    refine AOps_q 35 _ rfl rfl rfl (QOp_move _ _ rfl rfl) ?_
    refine AOps_q 36 _ rfl rfl rfl (QOp_move _ _ rfl rfl) ?_
    obtain ⟨r42, hr42, h⟩ := bindO h
    refine AOps_callL [] 37 _ _ _ _ _ _ _ _ _ _ rfl rfl rfl rfl rfl rfl rfl Try.call31 rfl (nodupB_sound _ rfl) rfl rfl rfl (laws_heldInt64S_ac k r41.2 1 _ hr42) ?_
    rintro _ _ ⟨rfl, rfl⟩
    refine ⟨(fun _ h => nomatch h), (allc (flat_s _) (fun _ h => nomatch h)), AOps_as 37 (v' := iV r42) (H' := [.vec 0 (intsD r41.2)]) rfl rfl ?_⟩
    refine AOps_q 8 _ rfl rfl rfl (QOp_assign _ _ rfl rfl) ?_
    refine AOps_nil ?_
    refine ACode_seq ?_
    refine ACode_seq (ACode_region ?_)
    refine AOps_q 38 _ rfl rfl rfl (QOp_move _ _ rfl rfl) ?_
    refine AOps_q 39 _ rfl rfl rfl (QOp_lss _ _ _ _ _ _ _ rfl rfl rfl) ?_
    refine AOps_nil ?_
    refine ACode_cond _ rfl (fun hb43 => ?_) (fun hb43 => ?_)
    · have h := iteT hb43 h
      refine ACode_seq (ACode_region ?_)
      refine AOps_q 2 _ rfl rfl rfl (QOp_assign _ _ rfl rfl) ?_
      refine AOps_nil ?_
      refine ACode_ret ?_
      cases h
      exact ⟨_, _, fun r a w h => ⟨r, h⟩, _, _, [], _, (.cons (ResV_tmp _ _ rfl) .nil), rfl, rfl, rfl, rfl, rfl⟩
    · have h := iteF hb43 h
      refine ACode_skip ?_
      refine ACode_seq ?_
      refine ACode_seq (ACode_region ?_)
      refine AOps_q 40 _ rfl rfl rfl (QOp_move _ _ rfl rfl) ?_
      refine AOps_q 41 _ rfl rfl rfl (QOp_move _ _ rfl rfl) ?_
      refine AOps_q 42 _ rfl rfl rfl (QOp_neq _ _ _ _ _ _ _ rfl rfl rfl) ?_
      refine AOps_nil ?_
      refine ACode_cond _ rfl (fun hb44 => ?_) (fun hb44 => ?_)
      · have h := iteT hb44 h
        refine ACode_seq (ACode_region ?_)
        refine AOps_q 2 _ rfl rfl rfl (QOp_assign _ _ rfl rfl) ?_
        refine AOps_nil ?_
        refine ACode_ret ?_
        cases h
        exact ⟨_, _, fun r a w h => ⟨r, h⟩, _, _, [], _, (.cons (ResV_tmp _ _ rfl) .nil), rfl, rfl, rfl, rfl, rfl⟩
      · have h := iteF hb44 h
        refine ACode_skip ?_
        refine ACode_seq (ACode_region ?_)
        refine AOps_q 44 _ rfl rfl rfl (QOp_loadN_pv _ _ _ _ _ _ rfl Try.isAgg37 Try.sizeOf37 rfl (colD_all _) (colD_length _)) ?_
        obtain ⟨r45, hr45, h⟩ := bindO h
        refine AOps_call [] 45 _ _ _ _ _ _ _ _ _ _ rfl rfl rfl rfl rfl rfl rfl Try.call24 rfl (nodupB_sound _ rfl) rfl rfl rfl (laws_toColouring_ac k p0 _ hr45) ?_
        rintro _ _ ⟨rfl, rfl⟩
        refine ⟨(fun _ h => nomatch h), (allc (trivial) (fun _ h => nomatch h)), AOps_as 45 (v' := .d (.agg (colD r45))) (H' := [.vec 0 (intsD r41.2)]) rfl rfl ?_⟩
        obtain ⟨r46, hr46, h⟩ := bindO h
        refine AOps_call [] 46 _ _ _ _ _ _ _ _ _ _ rfl rfl rfl rfl rfl rfl rfl Try.call37 rfl (nodupB_sound _ rfl) rfl rfl rfl (impl_LesserPart_ac k r45 _ hr46) ?_
        revert h
        cases hx48 : r46.1 with
        | none =>
          intro h
          rintro _ _ ⟨rfl, rfl⟩
          refine ⟨(fun _ h => nomatch h), (allc (trivial) (allc (trivial) (fun _ h => nomatch h))), AOps_as 46 (v' := .tup [.d (.sl (some true) []), iV r46.2]) (H' := [.vec 0 (intsD r41.2)]) rfl rfl ?_⟩
          refine AOps_q 43 _ rfl rfl rfl (QOp_move _ _ rfl rfl) ?_
          refine AOps_q 47 _ rfl rfl rfl (QOp_extract _ _ _ _ rfl rfl rfl) ?_
          refine AOps_q 48 _ rfl rfl rfl (QOp_extract _ _ _ _ rfl rfl rfl) ?_
          refine AOps_q 9 _ rfl rfl rfl (QOp_assign _ _ rfl rfl) ?_
          refine AOps_q 10 _ rfl rfl rfl (QOp_assign _ _ rfl rfl) ?_
          refine AOps_nil ?_
          obtain ⟨os53, hss53, hks53⟩ := bindO h
          clear h
          refine ACode_seqJ (fun E' H' => ∃ s53 : Unit, os53 = .inl s53 ∧ Weak 66 G E' H' [(5, .vec 0 0), (7, iV r41.1)] [.vec 0 (intsD r41.2)]) ?_ ?_
          · have h := hss53
            clear hss53
            obtain ⟨s51, hss51, hks51⟩ := bindO h
            clear h
            refine ACode_seqJ (fun E' H' => Weak 66 G E' H' [(5, .vec 0 0), (7, iV r41.1), (57, bV s51)] [.vec 0 (intsD r41.2)]) ?_ ?_
            · have h := hss51
              clear hss51
              refine (ACode_region ?_)
              refine AOps_q 49 _ rfl rfl rfl (QOp_move _ _ rfl rfl) ?_
              refine AOps_q 50 _ rfl rfl rfl (QOp_move _ _ rfl rfl) ?_
              obtain ⟨r49, hr49, h⟩ := bindO h
              refine AOps_call [] 51 _ _ _ _ _ _ _ _ _ _ rfl rfl rfl rfl rfl rfl rfl Try.call27 rfl (nodupB_sound _ rfl) rfl rfl rfl (laws_eqInt64S_ac k ([]) r2.1 _ hr49) ?_
              rintro _ _ ⟨rfl, rfl⟩
              refine ⟨(fun _ h => nomatch h), (allc (trivial) (fun _ h => nomatch h)), AOps_as 51 (v' := bV r49) (H' := [.vec 0 (intsD r41.2)]) rfl rfl ?_⟩
              refine AOps_q 52 _ rfl rfl rfl (QOp_not _ _ _ rfl rfl) ?_
              refine AOps_q 53 _ rfl rfl rfl (QOp_move _ _ rfl rfl) ?_
              refine AOps_case 53 _ rfl (fun hb50 => ?_) (fun hb50 => ?_)
              · have h := iteT hb50 h
                refine AOps_skip 54 rfl rfl rfl ?_
                refine AOps_skip 55 rfl rfl rfl ?_
                refine AOps_skip 56 rfl rfl rfl ?_
                refine AOps_q 57 _ rfl rfl rfl (QOp_pick_t _ _ _ _ rfl rfl rfl) ?_
                refine AOps_nil ?_
                cases h
                exact Weak_keep 0 hm [5, 7, 57] [0] _ _ rfl rfl rfl
              · have h := iteF hb50 h
                refine AOps_q 54 _ rfl rfl rfl (QOp_move _ _ rfl rfl) ?_
                refine AOps_q 55 _ rfl rfl rfl (QOp_move _ _ rfl rfl) ?_
                refine AOps_q 56 _ rfl rfl rfl (QOp_neq _ _ _ _ _ _ _ rfl rfl rfl) ?_
                refine AOps_q 57 _ rfl rfl rfl (QOp_pick_f _ _ _ _ rfl rfl rfl) ?_
                refine AOps_nil ?_
                cases h
                exact Weak_keep 0 hm [5, 7, 57] [0] _ _ rfl rfl rfl
            intro E' H' hw
            refine ACode_weak hw ?_
            have h := hks51
            refine ACode_cond _ rfl (fun hb52 => ?_) (fun hb52 => ?_)
            · have h := iteT hb52 h
              refine ACode_seq (ACode_region ?_)
              refine AOps_q 2 _ rfl rfl rfl (QOp_assign _ _ rfl rfl) ?_
              refine AOps_nil ?_
              refine ACode_ret ?_
              cases h
              have h := hks53
              cases h
              exact ⟨_, _, fun r a w h => ⟨r, h⟩, _, _, [], _, (.cons (ResV_tmp _ _ rfl) .nil), rfl, rfl, rfl, rfl, rfl⟩
            · have h := iteF hb52 h
              refine ACode_skip ?_
              cases h
              exact ⟨_, rfl, Weak_keep 0 hm [5, 7] [0] _ _ rfl rfl rfl⟩
          rintro E' H' ⟨s53, rfl, hw⟩
          refine ACode_weak hw ?_
          have h := hks53
          refine ACode_seq (ACode_region ?_)
          refine AOps_q 8 _ rfl rfl rfl (QOp_assign _ _ rfl rfl) ?_
          refine AOps_nil ?_
          refine ACode_seq (ACode_region ?_)
          refine AOps_q 58 _ rfl rfl rfl (QOp_move _ _ rfl rfl) ?_
          refine AOps_q 59 _ rfl rfl rfl (QOp_move _ _ rfl rfl) ?_
          obtain ⟨r54, hr54, h⟩ := bindO h
          refine AOps_callL [] 60 _ _ _ _ _ _ _ _ _ _ rfl rfl rfl rfl rfl rfl rfl Try.call31 rfl (nodupB_sound _ rfl) rfl rfl rfl (laws_heldInt64S_ac k r41.2 1 _ hr54) ?_
          rintro _ _ ⟨rfl, rfl⟩
          refine ⟨(fun _ h => nomatch h), (allc (flat_s _) (fun _ h => nomatch h)), AOps_as 60 (v' := iV r54) (H' := [.vec 0 (intsD r41.2)]) rfl rfl ?_⟩
          refine AOps_q 8 _ rfl rfl rfl (QOp_assign _ _ rfl rfl) ?_
          refine AOps_nil ?_
          refine ACode_seq ?_
          refine ACode_seq (ACode_region ?_)
          refine AOps_q 61 _ rfl rfl rfl (QOp_move _ _ rfl rfl) ?_
          refine AOps_q 62 _ rfl rfl rfl (QOp_lss _ _ _ _ _ _ _ rfl rfl rfl) ?_
          refine AOps_nil ?_
          refine ACode_cond _ rfl (fun hb55 => ?_) (fun hb55 => ?_)
          · have h := iteT hb55 h
            refine ACode_seq (ACode_region ?_)
            refine AOps_q 2 _ rfl rfl rfl (QOp_assign _ _ rfl rfl) ?_
            refine AOps_nil ?_
            refine ACode_ret ?_
            cases h
            exact ⟨_, _, fun r a w h => ⟨r, h⟩, _, _, [], _, (.cons (ResV_tmp _ _ rfl) .nil), rfl, rfl, rfl, rfl, rfl⟩
          · have h := iteF hb55 h
            refine ACode_skip ?_
            refine ACode_seq ?_
            refine ACode_seq (ACode_region ?_)
            refine AOps_q 63 _ rfl rfl rfl (QOp_move _ _ rfl rfl) ?_
            refine AOps_q 64 _ rfl rfl rfl (QOp_move _ _ rfl rfl) ?_
            refine AOps_q 65 _ rfl rfl rfl (QOp_neq _ _ _ _ _ _ _ rfl rfl rfl) ?_
            refine AOps_nil ?_
            refine ACode_cond _ rfl (fun hb56 => ?_) (fun hb56 => ?_)
            · have h := iteT hb56 h
              refine ACode_seq (ACode_region ?_)
              refine AOps_q 2 _ rfl rfl rfl (QOp_assign _ _ rfl rfl) ?_
              refine AOps_nil ?_
              refine ACode_ret ?_
              cases h
              exact ⟨_, _, fun r a w h => ⟨r, h⟩, _, _, [], _, (.cons (ResV_tmp _ _ rfl) .nil), rfl, rfl, rfl, rfl, rfl⟩
            · have h := iteF hb56 h
              refine ACode_skip ?_
              refine ACode_seq (ACode_region ?_)
              refine AOps_q 2 _ rfl rfl rfl (QOp_assign _ _ rfl rfl) ?_
              refine AOps_nil ?_
              refine ACode_ret ?_
              cases h
              exact ⟨_, _, fun r a w h => ⟨r, h⟩, _, _, [], _, (.cons (ResV_tmp _ _ rfl) .nil), rfl, rfl, rfl, rfl, rfl⟩
        | some l47 =>
          intro h
          rintro _ _ ⟨rfl, rfl⟩
          refine ⟨(allc (fun _ _ => trivial) (fun _ h => nomatch h)), (allc (trivial) (allc (trivial) (fun _ h => nomatch h))), AOps_as 46 (v' := .tup [.vec 1 0, iV r46.2]) (H' := [.vec 0 (intsD r41.2), .vec 0 (intsD l47)]) rfl rfl ?_⟩
          refine AOps_q 43 _ rfl rfl rfl (QOp_move _ _ rfl rfl) ?_
          refine AOps_q 47 _ rfl rfl rfl (QOp_extract _ _ _ _ rfl rfl rfl) ?_
          refine AOps_q 48 _ rfl rfl rfl (QOp_extract _ _ _ _ rfl rfl rfl) ?_
          refine AOps_q 9 _ rfl rfl rfl (QOp_assign _ _ rfl rfl) ?_
          refine AOps_q 10 _ rfl rfl rfl (QOp_assign _ _ rfl rfl) ?_
          refine AOps_nil ?_
          obtain ⟨os61, hss61, hks61⟩ := bindO h
          clear h
          refine ACode_seqJ (fun E' H' => ∃ s61 : Unit, os61 = .inl s61 ∧ Weak 66 G E' H' [(5, .vec 0 0), (7, iV r41.1)] [.vec 0 (intsD r41.2)]) ?_ ?_
          · have h := hss61
            clear hss61
            obtain ⟨s59, hss59, hks59⟩ := bindO h
            clear h
            refine ACode_seqJ (fun E' H' => Weak 66 G E' H' [(5, .vec 0 0), (7, iV r41.1), (57, bV s59)] [.vec 0 (intsD r41.2)]) ?_ ?_
            · have h := hss59
              clear hss59
              refine (ACode_region ?_)
              refine AOps_q 49 _ rfl rfl rfl (QOp_move _ _ rfl rfl) ?_
              refine AOps_q 50 _ rfl rfl rfl (QOp_move _ _ rfl rfl) ?_
              obtain ⟨r57, hr57, h⟩ := bindO h
              refine AOps_callL [] 51 _ _ _ _ _ _ _ _ _ _ rfl rfl rfl rfl rfl rfl rfl Try.call27 rfl (nodupB_sound _ rfl) rfl rfl rfl (laws_eqInt64S_ac k l47 r2.1 _ hr57) ?_
              rintro _ _ ⟨rfl, rfl⟩
              refine ⟨(fun _ h => nomatch h), (allc (flat_s _) (fun _ h => nomatch h)), AOps_as 51 (v' := bV r57) (H' := [.vec 0 (intsD r41.2), .vec 0 (intsD l47)]) rfl rfl ?_⟩
              refine AOps_q 52 _ rfl rfl rfl (QOp_not _ _ _ rfl rfl) ?_
              refine AOps_q 53 _ rfl rfl rfl (QOp_move _ _ rfl rfl) ?_
              refine AOps_case 53 _ rfl (fun hb58 => ?_) (fun hb58 => ?_)
              · have h := iteT hb58 h
                refine AOps_skip 54 rfl rfl rfl ?_
                refine AOps_skip 55 rfl rfl rfl ?_
                refine AOps_skip 56 rfl rfl rfl ?_
                refine AOps_q 57 _ rfl rfl rfl (QOp_pick_t _ _ _ _ rfl rfl rfl) ?_
                refine AOps_nil ?_
                cases h
                exact Weak_keep 0 hm [5, 7, 57] [0] _ _ rfl rfl rfl
              · have h := iteF hb58 h
                refine AOps_q 54 _ rfl rfl rfl (QOp_move _ _ rfl rfl) ?_
                refine AOps_q 55 _ rfl rfl rfl (QOp_move _ _ rfl rfl) ?_
                refine AOps_q 56 _ rfl rfl rfl (QOp_neq _ _ _ _ _ _ _ rfl rfl rfl) ?_
                refine AOps_q 57 _ rfl rfl rfl (QOp_pick_f _ _ _ _ rfl rfl rfl) ?_
                refine AOps_nil ?_
                cases h
                exact Weak_keep 0 hm [5, 7, 57] [0] _ _ rfl rfl rfl
            intro E' H' hw
            refine ACode_weak hw ?_
            have h := hks59
            refine ACode_cond _ rfl (fun hb60 => ?_) (fun hb60 => ?_)
            · have h := iteT hb60 h
              refine ACode_seq (ACode_region ?_)
              refine AOps_q 2 _ rfl rfl rfl (QOp_assign _ _ rfl rfl) ?_
              refine AOps_nil ?_
              refine ACode_ret ?_
              cases h
              have h := hks61
              cases h
              exact ⟨_, _, fun r a w h => ⟨r, h⟩, _, _, [], _, (.cons (ResV_tmp _ _ rfl) .nil), rfl, rfl, rfl, rfl, rfl⟩
            · have h := iteF hb60 h
              refine ACode_skip ?_
              cases h
              exact ⟨_, rfl, Weak_keep 0 hm [5, 7] [0] _ _ rfl rfl rfl⟩
          rintro E' H' ⟨s61, rfl, hw⟩
          refine ACode_weak hw ?_
          have h := hks61
          refine ACode_seq (ACode_region ?_)
          refine AOps_q 8 _ rfl rfl rfl (QOp_assign _ _ rfl rfl) ?_
          refine AOps_nil ?_
          refine ACode_seq (ACode_region ?_)
          refine AOps_q 58 _ rfl rfl rfl (QOp_move _ _ rfl rfl) ?_
          refine AOps_q 59 _ rfl rfl rfl (QOp_move _ _ rfl rfl) ?_
          obtain ⟨r62, hr62, h⟩ := bindO h
          refine AOps_callL [] 60 _ _ _ _ _ _ _ _ _ _ rfl rfl rfl rfl rfl rfl rfl Try.call31 rfl (nodupB_sound _ rfl) rfl rfl rfl (laws_heldInt64S_ac k r41.2 1 _ hr62) ?_
          rintro _ _ ⟨rfl, rfl⟩
          refine ⟨(fun _ h => nomatch h), (allc (flat_s _) (fun _ h => nomatch h)), AOps_as 60 (v' := iV r62) (H' := [.vec 0 (intsD r41.2)]) rfl rfl ?_⟩
          refine AOps_q 8 _ rfl rfl rfl (QOp_assign _ _ rfl rfl) ?_
          refine AOps_nil ?_
          refine ACode_seq ?_
          refine ACode_seq (ACode_region ?_)
          refine AOps_q 61 _ rfl rfl rfl (QOp_move _ _ rfl rfl) ?_
          refine AOps_q 62 _ rfl rfl rfl (QOp_lss _ _ _ _ _ _ _ rfl rfl rfl) ?_
          refine AOps_nil ?_
          refine ACode_cond _ rfl (fun hb63 => ?_) (fun hb63 => ?_)
          · have h := iteT hb63 h
            refine ACode_seq (ACode_region ?_)
            refine AOps_q 2 _ rfl rfl rfl (QOp_assign _ _ rfl rfl) ?_
            refine AOps_nil ?_
            refine ACode_ret ?_
            cases h
            exact ⟨_, _, fun r a w h => ⟨r, h⟩, _, _, [], _, (.cons (ResV_tmp _ _ rfl) .nil), rfl, rfl, rfl, rfl, rfl⟩
          · have h := iteF hb63 h
            refine ACode_skip ?_
            refine ACode_seq ?_
            refine ACode_seq (ACode_region ?_)
            refine AOps_q 63 _ rfl rfl rfl (QOp_move _ _ rfl rfl) ?_
            refine AOps_q 64 _ rfl rfl rfl (QOp_move _ _ rfl rfl) ?_
            refine AOps_q 65 _ rfl rfl rfl (QOp_neq _ _ _ _ _ _ _ rfl rfl rfl) ?_
            refine AOps_nil ?_
            refine ACode_cond _ rfl (fun hb64 => ?_) (fun hb64 => ?_)
            · have h := iteT hb64 h
              refine ACode_seq (ACode_region ?_)
              refine AOps_q 2 _ rfl rfl rfl (QOp_assign _ _ rfl rfl) ?_
              refine AOps_nil ?_
              refine ACode_ret ?_
              cases h
              exact ⟨_, _, fun r a w h => ⟨r, h⟩, _, _, [], _, (.cons (ResV_tmp _ _ rfl) .nil), rfl, rfl, rfl, rfl, rfl⟩
            · have h := iteF hb64 h
              refine ACode_skip ?_
              refine ACode_seq (ACode_region ?_)
              refine AOps_q 2 _ rfl rfl rfl (QOp_assign _ _ rfl rfl) ?_
              refine AOps_nil ?_
              refine ACode_ret ?_
              cases h
              exact ⟨_, _, fun r a w h => ⟨r, h⟩, _, _, [], _, (.cons (ResV_tmp _ _ rfl) .nil), rfl, rfl, rfl, rfl, rfl⟩

end Go.Proofs.Ytjkanhdklfgghaa
