/- Plain functions of the program and that the program computes them: printed by the own tool gen.py. No conditions. -/
import Derived.Test.YtjkanhdklfgghaaGen2
set_option linter.unusedVariables false
set_option linter.unusedSimpArgs false
namespace Go.Proofs.Ytjkanhdklfgghaa
open Go Go.RowKit Ab

-- loop.example/g01362/spec.l10Ups
def spec_l10Ups_l1 (p0 : Col) (p1 : Int) (x2 : Int) : Nat → Int → (List Int) → Option (List Int)
  | 0, _, _ => none
  | k1 + 1, x6, x7 => (if decide (x6 < p0.p) then ((spec_l01At p0 x2 x6).bind fun r9 => (if decide (r9 = p1) then (if 0 ≤ x2 ∧ x2 < (x7.length : Int) then (if 0 ≤ x6 ∧ x6 < (x7.length : Int) then (if 0 ≤ x2 ∧ x2 < (x7.length : Int) then some (x7.set x2.toNat (if (x7.getD x2.toNat 0) < w64 ((x7.getD x6.toNat 0) + 1) then w64 ((x7.getD x6.toNat 0) + 1) else (x7.getD x2.toNat 0))) else none) else none) else none) else some x7) : Option (List Int)).bind fun s14 => spec_l10Ups_l1 p0 p1 x2 k1 (w64 (x6 + 1)) s14 else some x7)
def spec_l10Ups_l0 (k : Nat) (p0 : Col) (p1 : Int) : Nat → Int → (List Int) → Option (List Int)
  | 0, _, _ => none
  | k0 + 1, x2, x3 => (if decide (0 ≤ x2) then ((if 0 ≤ x2 ∧ x2 < (x3.length : Int) then spec_l10Ups_l1 p0 p1 x2 k (w64 (x2 + 1)) (x3.set x2.toNat 1) else none) : Option (List Int)).bind fun s15 => spec_l10Ups_l0 k p0 p1 k0 (w64 (x2 - 1)) s15 else some x3)
def spec_l10Ups (k : Nat) (p0 : Col) (p1 : Int) : Option (List Int) :=
  (if 0 ≤ p0.p ∧ p0.p ≤ p0.p ∧ p0.p ≤ 1099511627776 then (spec_l10Ups_l0 k p0 p1 k (w64 (p0.p - 1)) (List.replicate p0.p.toNat (0 : Int)) : Option (List Int)).bind fun s16 => some s16 else none)
set_option maxRecDepth 100000 in
theorem spec_l10Ups_ac (k : Nat) (p0 : Col) (p1 : Int) (r : List Int) (h : spec_l10Ups k p0 p1 = some r) : AC Try.prog 112 [.d (.agg (colD p0)), iV p1] [] (fun res H' => res = [.vec 0 0] ∧ H' = [.vec 0 (intsD r)]) := by
  refine AC_of_body true Try.func112 rfl Try.ntmps112 (rvs := [.tmp 4]) rfl rfl (fun G hG => ?_)
  have hm : G.H.length = 0 := by rw [hG]; rfl
  unfold spec_l10Ups at h
  refine ACode_seq (ACode_region ?_)
  refine AOps_boxI 2 _ _ (.agg (colD p0)) (colD p0) rfl (colD_one _) rfl rfl rfl rfl rfl ?_
  refine AOps_q 4 _ rfl rfl rfl (QOp_assign _ _ rfl rfl) ?_
  refine AOps_nil ?_
  refine ACode_seq (ACode_region ?_)
  refine AOps_q 8 _ rfl rfl rfl (QOp_fieldAddr_pv _ _ _ _ _ 0 _ _ rfl Try.underlying24 rfl _ Try.sizeOf2 rfl rfl) ?_
  refine AOps_q 9 _ rfl rfl rfl (QOp_load_pv _ _ _ _ _ rfl Try.isAgg2 rfl rfl) ?_
  obtain ⟨hc1, h⟩ := guardO h
  refine AOps_makeSliceG intsD iD 0 (intsD_rep · _) 10 _ _ _ _ _ _ p0.p p0.p _ (.int .i64 0) rfl rfl rfl rfl rfl rfl Try.underlying38 Try.type2 rfl rfl (by decide) rfl rfl hc1.1 hc1.2.1 hc1.2.2 ?_
  refine AOps_q 5 _ rfl rfl rfl (QOp_assign _ _ rfl rfl) ?_
  refine AOps_nil ?_
  obtain ⟨s16, hss16, hks16⟩ := bindO h
  clear h
  refine ACode_seqJ (fun E' H' => Weak 49 G E' H' [(5, .vec 0 0)] [.vec 0 (intsD s16)]) ?_ ?_
  · have h := hss16
    clear hss16
    refine ACode_seq (ACode_region ?_)
    refine AOps_q 11 _ rfl rfl rfl (QOp_fieldAddr_pv _ _ _ _ _ 0 _ _ rfl Try.underlying24 rfl _ Try.sizeOf2 rfl rfl) ?_
    refine AOps_q 12 _ rfl rfl rfl (QOp_load_pv _ _ _ _ _ rfl Try.isAgg2 rfl rfl) ?_
    refine AOps_q 13 _ rfl rfl rfl (QOp_sub _ _ _ _ _ _ _ rfl rfl rfl) ?_
    refine AOps_q 6 _ rfl rfl rfl (QOp_assign _ _ rfl rfl) ?_
    refine AOps_nil ?_
    refine ACode_block ?_
    refine ACode_loopW (fun k0 E H => ∃ (x2 : Int) (x3 : List Int), E = [(1, iV p1), (2, .d (.pv (colD p0) 0)), (5, .vec 0 0), (6, iV x2)] ∧ H = [.vec 0 (intsD x3)] ∧ spec_l10Ups_l0 k p0 p1 k0 x2 x3 = some s16) k _ _ (Weak_keep 0 hm [1, 2, 5, 6] [0] _ _ rfl rfl rfl) ⟨_, _, rfl, rfl, h⟩ ?_
    clear h
    rintro k0 E H ⟨x2, x3, rfl, rfl, h⟩
    cases k0 with
    | zero => cases (show (none : Option (List Int)) = some _ from h)
    | succ k0 =>
      rw [spec_l10Ups_l0] at h
      refine ACode_seq ?_
      refine ACode_seq (ACode_region ?_)
      refine AOps_q 14 _ rfl rfl rfl (QOp_move _ _ rfl rfl) ?_
      refine AOps_q 15 _ rfl rfl rfl (QOp_geq _ _ _ _ _ _ _ rfl rfl rfl) ?_
      refine AOps_nil ?_
      refine ACode_cond _ rfl (fun hb4 => ?_) (fun hb4 => ?_)
      · have h := iteT hb4 h
        refine ACode_skip ?_
        obtain ⟨s15, hss15, hks15⟩ := bindO h
        clear h
        refine ACode_seqJ (fun E' H' => Weak 49 G E' H' [(1, iV p1), (2, .d (.pv (colD p0) 0)), (5, .vec 0 0), (6, iV x2)] [.vec 0 (intsD s15)]) ?_ ?_
        · have h := hss15
          clear hss15
          refine ACode_block ?_
          refine ACode_seq (ACode_region ?_)
          refine AOps_q 18 _ rfl rfl rfl (QOp_move _ _ rfl rfl) ?_
          refine AOps_q 19 _ rfl rfl rfl (QOp_move _ _ rfl rfl) ?_
          obtain ⟨hc5, h⟩ := guardO h
          refine AOps_q 20 _ rfl rfl rfl (QOp_indexAddr_vec _ _ _ _ _ _ _ _ _ rfl Try.underlying38 Try.sizeOf2 hc5.1 (by rw [intsD_length]; exact hc5.2) rfl rfl rfl) ?_
          refine AOps_store_eptr _ _ _ _ _ _ (intsD x3) _ rfl rfl rfl rfl rfl rfl rfl Try.sizeOf2 (by rw [intsD_length]; omega) ?_
          rw [intsD_set]
          refine AOps_nil ?_
          refine ACode_seq (ACode_region ?_)
          refine AOps_q 21 _ rfl rfl rfl (QOp_move _ _ rfl rfl) ?_
          refine AOps_q 22 _ rfl rfl rfl (QOp_add _ _ _ _ _ _ _ rfl rfl rfl) ?_
          refine AOps_q 7 _ rfl rfl rfl (QOp_assign _ _ rfl rfl) ?_
          refine AOps_nil ?_
          refine ACode_block ?_
          refine ACode_loopW (fun k1 E H => ∃ (x6 : Int) (x7 : List Int), E = [(1, iV p1), (2, .d (.pv (colD p0) 0)), (5, .vec 0 0), (6, iV x2), (7, iV x6)] ∧ H = [.vec 0 (intsD x7)] ∧ spec_l10Ups_l1 p0 p1 x2 k1 x6 x7 = some s15) k _ _ (Weak_keep 0 hm [1, 2, 5, 6, 7] [0] _ _ rfl rfl rfl) ⟨_, _, rfl, rfl, h⟩ ?_
          clear h
          rintro k1 E H ⟨x6, x7, rfl, rfl, h⟩
          cases k1 with
          | zero => cases (show (none : Option (List Int)) = some _ from h)
          | succ k1 =>
            rw [spec_l10Ups_l1] at h
            refine ACode_seq ?_
            refine ACode_seq (ACode_region ?_)
            refine AOps_q 23 _ rfl rfl rfl (QOp_move _ _ rfl rfl) ?_
            refine AOps_q 24 _ rfl rfl rfl (QOp_fieldAddr_pv _ _ _ _ _ 0 _ _ rfl Try.underlying24 rfl _ Try.sizeOf2 rfl rfl) ?_
            refine AOps_q 25 _ rfl rfl rfl (QOp_load_pv _ _ _ _ _ rfl Try.isAgg2 rfl rfl) ?_
            refine AOps_q 26 _ rfl rfl rfl (QOp_lss _ _ _ _ _ _ _ rfl rfl rfl) ?_
            refine AOps_nil ?_
            refine ACode_cond _ rfl (fun hb8 => ?_) (fun hb8 => ?_)
            · have h := iteT hb8 h
              refine ACode_skip ?_
              obtain ⟨s14, hss14, hks14⟩ := bindO h
              clear h
              refine ACode_seqJ (fun E' H' => Weak 49 G E' H' [(1, iV p1), (2, .d (.pv (colD p0) 0)), (5, .vec 0 0), (6, iV x2), (7, iV x6)] [.vec 0 (intsD s14)]) ?_ ?_
              · have h := hss14
                clear hss14
                refine ACode_block ?_
                refine ACode_seq (ACode_region ?_)
                refine AOps_q 29 _ rfl rfl rfl (QOp_loadN_pv _ _ _ _ _ _ rfl Try.isAgg24 Try.sizeOf24 rfl (colD_all _) (colD_length _)) ?_
                refine AOps_q 30 _ rfl rfl rfl (QOp_move _ _ rfl rfl) ?_
                refine AOps_q 31 _ rfl rfl rfl (QOp_move _ _ rfl rfl) ?_
                obtain ⟨r9, hr9, h⟩ := bindO h
                refine AOps_call [] 32 _ _ _ _ _ _ _ _ _ _ rfl rfl rfl rfl rfl rfl rfl Try.call64 rfl (nodupB_sound _ rfl) rfl rfl rfl (spec_l01At_ac p0 x2 x6 _ hr9) ?_
                rintro _ _ ⟨rfl, rfl⟩
                refine ⟨(fun _ h => nomatch h), (allc (trivial) (fun _ h => nomatch h)), AOps_as 32 (v' := iV r9) (H' := [.vec 0 (intsD x7)]) rfl rfl ?_⟩
                refine AOps_q 33 _ rfl rfl rfl (QOp_move _ _ rfl rfl) ?_
                refine AOps_q 34 _ rfl rfl rfl (QOp_eql _ _ _ _ _ _ _ rfl rfl rfl) ?_
                refine AOps_nil ?_
                refine ACode_cond _ rfl (fun hb10 => ?_) (fun hb10 => ?_)
                · have h := iteT hb10 h
                  refine (ACode_last (l := [_, _, _, _, _, _, _, _, _, _, _, _, _]) mixed (by kernel_rfl) (by kernel_rfl) ?_)
                  refine AQ_q 35 _ rfl rfl rfl (QOp_move _ _ rfl rfl) ?_
                  refine AQ_q 36 _ rfl rfl rfl (QOp_move _ _ rfl rfl) ?_
                  refine AQ_q 37 _ rfl rfl rfl (QOp_move _ _ rfl rfl) ?_
                  refine AQ_q 38 _ rfl rfl rfl (QOp_move _ _ rfl rfl) ?_
                  obtain ⟨hc11, h⟩ := guardO h
                  refine AQ_q 39 _ rfl rfl rfl (QOp_indexAddr_vec _ _ _ _ _ _ _ _ _ rfl Try.underlying38 Try.sizeOf2 hc11.1 (by rw [intsD_length]; exact hc11.2) rfl rfl rfl) ?_
                  refine AQ_q 40 _ rfl rfl rfl (QOp_load_eptr _ _ _ _ _ _ _ rfl Try.isAgg2 rfl rfl (intsD_get _ _ 0 (by omega))) ?_
                  refine AQ_q 41 _ rfl rfl rfl (QOp_move _ _ rfl rfl) ?_
                  refine AQ_q 42 _ rfl rfl rfl (QOp_move _ _ rfl rfl) ?_
                  obtain ⟨hc12, h⟩ := guardO h
                  refine AQ_q 43 _ rfl rfl rfl (QOp_indexAddr_vec _ _ _ _ _ _ _ _ _ rfl Try.underlying38 Try.sizeOf2 hc12.1 (by rw [intsD_length]; exact hc12.2) rfl rfl rfl) ?_
                  refine AQ_q 44 _ rfl rfl rfl (QOp_load_eptr _ _ _ _ _ _ _ rfl Try.isAgg2 rfl rfl (intsD_get _ _ 0 (by omega))) ?_
                  refine AQ_q 45 _ rfl rfl rfl (QOp_add _ _ _ _ _ _ _ rfl rfl rfl) ?_
                  refine AQ_q 46 _ rfl rfl rfl (QOp_max _ _ _ _ _ _ rfl rfl rfl rfl rfl) ?_
                  obtain ⟨hc13, h⟩ := guardO h
                  refine AQ_q 47 _ rfl rfl rfl (QOp_indexAddr_vec _ _ _ _ _ _ _ _ _ rfl Try.underlying38 Try.sizeOf2 hc13.1 (by rw [intsD_length]; exact hc13.2) rfl rfl rfl) ?_
                  refine AQ_nil ?_
                  refine AOps_store_eptr _ _ _ _ _ _ (intsD x7) _ rfl rfl rfl rfl rfl rfl rfl Try.sizeOf2 (by rw [intsD_length]; omega) ?_
                  rw [intsD_set]
                  refine AOps_nil ?_
                  cases h
                  exact Weak_keep 0 hm [1, 2, 5, 6, 7] [0] _ _ rfl rfl rfl
                · have h := iteF hb10 h
                  refine ACode_skip ?_
                  cases h
                  exact Weak_keep 0 hm [1, 2, 5, 6, 7] [0] _ _ rfl rfl rfl
              intro E' H' hw
              refine ACode_weak hw ?_
              have h := hks14
              refine (ACode_region ?_)
              refine AOps_q 27 _ rfl rfl rfl (QOp_move _ _ rfl rfl) ?_
              refine AOps_q 28 _ rfl rfl rfl (QOp_add _ _ _ _ _ _ _ rfl rfl rfl) ?_
              refine AOps_q 7 _ rfl rfl rfl (QOp_assign _ _ rfl rfl) ?_
              refine AOps_nil ?_
              exact ⟨k1, _, _, Nat.lt_succ_self _, Weak_keep 0 hm [1, 2, 5, 6, 7] [0] _ _ rfl rfl rfl, _, _, rfl, rfl, h⟩
            · have h := iteF hb8 h
              refine ACode_exit ?_
              cases h
              exact Weak_keep 0 hm [1, 2, 5, 6] [0] _ _ rfl rfl rfl
        intro E' H' hw
        refine ACode_weak hw ?_
        have h := hks15
        refine (ACode_region ?_)
        refine AOps_q 16 _ rfl rfl rfl (QOp_move _ _ rfl rfl) ?_
        refine AOps_q 17 _ rfl rfl rfl (QOp_sub _ _ _ _ _ _ _ rfl rfl rfl) ?_
        refine AOps_q 6 _ rfl rfl rfl (QOp_assign _ _ rfl rfl) ?_
        refine AOps_nil ?_
        exact ⟨k0, _, _, Nat.lt_succ_self _, Weak_keep 0 hm [1, 2, 5, 6] [0] _ _ rfl rfl rfl, _, _, rfl, rfl, h⟩
      · have h := iteF hb4 h
        refine ACode_exit ?_
        cases h
        exact Weak_keep 0 hm [5] [0] _ _ rfl rfl rfl
  intro E' H' hw
  refine ACode_weak hw ?_
  have h := hks16
  refine ACode_seq (ACode_region ?_)
  refine AOps_q 48 _ rfl rfl rfl (QOp_move _ _ rfl rfl) ?_
  refine AOps_q 4 _ rfl rfl rfl (QOp_assign _ _ rfl rfl) ?_
  refine AOps_nil ?_
  refine ACode_ret ?_
  cases h
  exact ⟨_, _, Weak_reset 0 hm [4] _ _ rfl rfl, _, _, [0], _, (.cons (ResV_tmp _ _ rfl) .nil), rfl, rfl, rfl, rfl, rfl⟩

-- loop.example/g01362/spec.l10Longest
def spec_l10Longest_l0 (r1 : List Int) : Nat → Int → Int → Option (Int)
  | 0, _, _ => none
  | k0 + 1, x2, x3 => (if decide (x3 < (r1.length : Int)) then (if 0 ≤ x3 ∧ x3 < (r1.length : Int) then spec_l10Longest_l0 r1 k0 (if x2 < (r1.getD x3.toNat 0) then (r1.getD x3.toNat 0) else x2) (w64 (x3 + 1)) else none) else some x2)
def spec_l10Longest_l1 (p0 : Col) (p1 : Int) (r1 : List Int) : Nat → Int → Int → (List Int) → Option (List Int)
  | 0, _, _, _ => none
  | k1 + 1, x7, x8, x9 => (letO (if decide (x8 < p0.p) then decide (0 < x7) else false) fun (s11 : Bool) => (if s11 then some (.inl ()) else (some x9).bind fun rr => some (.inr rr)) : Option (Sum (Unit) (List Int))).bind fun os13 => (match os13 with | .inl s13 => (((if 0 ≤ x8 ∧ x8 < (r1.length : Int) then (if decide ((r1.getD x8.toNat 0) = x7) then (if decide ((x9.length : Int) = 0) then some true else (if 0 ≤ w64 ((x9.length : Int) - 1) ∧ w64 ((x9.length : Int) - 1) < (x9.length : Int) then (spec_l01At p0 (x9.getD (w64 ((x9.length : Int) - 1)).toNat 0) x8).bind fun r18 => some (decide (r18 = p1)) else none)) else some false) else none) : Option (Bool)).bind fun s19 => (if s19 then (if x9.length + ([x8]).length ≤ 1099511627776 then some (w64 (x7 - 1), (x9 ++ ([x8]))) else none) else some (x7, x9)) : Option (Int × List Int)).bind fun s22 => spec_l10Longest_l1 p0 p1 r1 k1 s22.1 (w64 (x8 + 1)) s22.2 | .inr rr => some rr)
def spec_l10Longest (k : Nat) (p0 : Col) (p1 : Int) : Option (List Int) :=
  (spec_l10Ups k p0 p1).bind fun r1 => (spec_l10Longest_l0 r1 k 0 0 : Option (Int)).bind fun s6 => (spec_l10Longest_l1 p0 p1 r1 k s6 0 ([] : List Int) : Option (List Int)).bind fun s23 => some s23
set_option maxRecDepth 100000 in
theorem spec_l10Longest_ac (k : Nat) (p0 : Col) (p1 : Int) (r : List Int) (h : spec_l10Longest k p0 p1 = some r) : AC Try.prog 74 [.d (.agg (colD p0)), iV p1] [] (fun res H' => res = [.vec 0 0] ∧ H' = [.vec 0 (intsD r)]) := by
  refine AC_of_body true Try.func74 rfl Try.ntmps74 (rvs := [.tmp 4]) rfl rfl (fun G hG => ?_)
  have hm : G.H.length = 0 := by rw [hG]; rfl
  unfold spec_l10Longest at h
  refine ACode_seq (ACode_region ?_)
  refine AOps_boxI 2 _ _ (.agg (colD p0)) (colD p0) rfl (colD_one _) rfl rfl rfl rfl rfl ?_
  refine AOps_q 4 _ rfl rfl rfl (QOp_assign _ _ rfl rfl) ?_
  refine AOps_nil ?_
  refine ACode_seq (ACode_region ?_)
  refine AOps_q 10 _ rfl rfl rfl (QOp_loadN_pv _ _ _ _ _ _ rfl Try.isAgg24 Try.sizeOf24 rfl (colD_all _) (colD_length _)) ?_
  refine AOps_q 11 _ rfl rfl rfl (QOp_move _ _ rfl rfl) ?_
  obtain ⟨r1, hr1, h⟩ := bindO h
  refine AOps_call [] 12 _ _ _ _ _ _ _ _ _ _ rfl rfl rfl rfl rfl rfl rfl Try.call112 rfl (nodupB_sound _ rfl) rfl rfl rfl (spec_l10Ups_ac k p0 p1 _ hr1) ?_
  rintro _ _ ⟨rfl, rfl⟩
  refine ⟨(allc (fun _ _ => trivial) (fun _ h => nomatch h)), (allc (trivial) (fun _ h => nomatch h)), AOps_as 12 (v' := .vec 0 0) (H' := [.vec 0 (intsD r1)]) rfl rfl ?_⟩
  refine AOps_q 5 _ rfl rfl rfl (QOp_assign _ _ rfl rfl) ?_
  refine AOps_q 6 _ rfl rfl rfl (QOp_assign _ _ rfl rfl) ?_
  refine AOps_nil ?_
  obtain ⟨s6, hss6, hks6⟩ := bindO h
  clear h
  refine ACode_seqJ (fun E' H' => Weak 67 G E' H' [(1, iV p1), (2, .d (.pv (colD p0) 0)), (5, .vec 0 0), (6, iV s6)] [.vec 0 (intsD r1)]) ?_ ?_
  · have h := hss6
    clear hss6
    refine ACode_seq (ACode_region ?_)
    refine AOps_q 7 _ rfl rfl rfl (QOp_assign _ _ rfl rfl) ?_
    refine AOps_nil ?_
    refine ACode_block ?_
    refine ACode_loopW (fun k0 E H => ∃ (x2 : Int) (x3 : Int), E = [(1, iV p1), (2, .d (.pv (colD p0) 0)), (5, .vec 0 0), (6, iV x2), (7, iV x3)] ∧ H = [.vec 0 (intsD r1)] ∧ spec_l10Longest_l0 r1 k0 x2 x3 = some s6) k _ _ (Weak_keep 0 hm [1, 2, 5, 6, 7] [0] _ _ rfl rfl rfl) ⟨_, _, rfl, rfl, h⟩ ?_
    clear h
    rintro k0 E H ⟨x2, x3, rfl, rfl, h⟩
    cases k0 with
    | zero => cases (show (none : Option (Int)) = some _ from h)
    | succ k0 =>
      rw [spec_l10Longest_l0] at h
      refine ACode_seq ?_
      refine ACode_seq (ACode_region ?_)
      refine AOps_q 13 _ rfl rfl rfl (QOp_move _ _ rfl rfl) ?_
      refine AOps_q 14 _ rfl rfl rfl (QOp_move _ _ rfl rfl) ?_
      refine AOps_q 15 _ rfl rfl rfl (QOp_len_vec _ _ _ _ _ _ _ _ (intsD_length _) rfl rfl rfl rfl Try.underlying38 rfl rfl) ?_
      refine AOps_q 16 _ rfl rfl rfl (QOp_lss _ _ _ _ _ _ _ rfl rfl rfl) ?_
      refine AOps_nil ?_
      refine ACode_cond _ rfl (fun hb4 => ?_) (fun hb4 => ?_)
      · have h := iteT hb4 h
        refine ACode_skip ?_
        refine ACode_seq ?_
        refine ACode_block ?_
        refine (ACode_region ?_)
        refine AOps_q 19 _ rfl rfl rfl (QOp_move _ _ rfl rfl) ?_
        refine AOps_q 20 _ rfl rfl rfl (QOp_move _ _ rfl rfl) ?_
        refine AOps_q 21 _ rfl rfl rfl (QOp_move _ _ rfl rfl) ?_
        obtain ⟨hc5, h⟩ := guardO h
        refine AOps_q 22 _ rfl rfl rfl (QOp_indexAddr_vec _ _ _ _ _ _ _ _ _ rfl Try.underlying38 Try.sizeOf2 hc5.1 (by rw [intsD_length]; exact hc5.2) rfl rfl rfl) ?_
        refine AOps_q 23 _ rfl rfl rfl (QOp_load_eptr _ _ _ _ _ _ _ rfl Try.isAgg2 rfl rfl (intsD_get _ _ 0 (by omega))) ?_
        refine AOps_q 24 _ rfl rfl rfl (QOp_max _ _ _ _ _ _ rfl rfl rfl rfl rfl) ?_
        refine AOps_q 6 _ rfl rfl rfl (QOp_assign _ _ rfl rfl) ?_
        refine AOps_nil ?_
        refine (ACode_region ?_)
        refine AOps_q 17 _ rfl rfl rfl (QOp_move _ _ rfl rfl) ?_
        refine AOps_q 18 _ rfl rfl rfl (QOp_add _ _ _ _ _ _ _ rfl rfl rfl) ?_
        refine AOps_q 7 _ rfl rfl rfl (QOp_assign _ _ rfl rfl) ?_
        refine AOps_nil ?_
        exact ⟨k0, _, _, Nat.lt_succ_self _, Weak_keep 0 hm [1, 2, 5, 6, 7] [0] _ _ rfl rfl rfl, _, _, rfl, rfl, h⟩
      · have h := iteF hb4 h
        refine ACode_exit ?_
        cases h
        exact Weak_keep 0 hm [1, 2, 5, 6] [0] _ _ rfl rfl rfl
  intro E' H' hw
  refine ACode_weak hw ?_
  have h := hks6
  refine ACode_seq (ACode_region ?_)
  refine AOps_buildSlice 25 _ _ _ [] (intsD ([] : List Int)) _ rfl rfl rfl rfl rfl (by decide) Try.underlying38 Try.sizeOf2 (zero_of Try.typeInfo2 rfl) rfl rfl (intsD_one _) ?_
  refine AOps_q 8 _ rfl rfl rfl (QOp_assign _ _ rfl rfl) ?_
  refine AOps_nil ?_
  obtain ⟨s23, hss23, hks23⟩ := bindO h
  clear h
  refine ACode_seqJ (fun E' H' => Weak 67 G E' H' [(8, .vec 0 0)] [.vec 0 (intsD s23)]) ?_ ?_
  · have h := hss23
    clear hss23
    refine ACode_seq (ACode_region ?_)
    refine AOps_q 9 _ rfl rfl rfl (QOp_assign _ _ rfl rfl) ?_
    refine AOps_nil ?_
    refine ACode_block ?_
    refine ACode_loopW (fun k1 E H => ∃ (x7 : Int) (x8 : Int) (x9 : List Int), E = [(1, iV p1), (2, .d (.pv (colD p0) 0)), (5, .vec 0 0), (6, iV x7), (8, .vec 1 0), (9, iV x8)] ∧ H = [.vec 0 (intsD r1), .vec 0 (intsD x9)] ∧ spec_l10Longest_l1 p0 p1 r1 k1 x7 x8 x9 = some s23) k _ _ (Weak_keep 0 hm [1, 2, 5, 6, 8, 9] [0, 1] _ _ rfl rfl rfl) ⟨_, _, _, rfl, rfl, h⟩ ?_
    clear h
    rintro k1 E H ⟨x7, x8, x9, rfl, rfl, h⟩
    cases k1 with
    | zero => cases (show (none : Option (List Int)) = some _ from h)
    | succ k1 =>
      rw [spec_l10Longest_l1] at h
      obtain ⟨os13, hss13, hks13⟩ := bindO h
      clear h
      refine ACode_seqJ (fun E' H' => ∃ s13 : Unit, os13 = .inl s13 ∧ Weak 67 G E' H' [(1, iV p1), (2, .d (.pv (colD p0) 0)), (5, .vec 0 0), (6, iV x7), (8, .vec 1 0), (9, iV x8)] [.vec 0 (intsD r1), .vec 0 (intsD x9)]) ?_ ?_
      · have h := hss13
        clear hss13
        obtain ⟨s11, hss11, hks11⟩ := letS h
        clear h
        refine ACode_seqJ (fun E' H' => Weak 67 G E' H' [(1, iV p1), (2, .d (.pv (colD p0) 0)), (5, .vec 0 0), (6, iV x7), (8, .vec 1 0), (9, iV x8), (33, bV s11)] [.vec 0 (intsD r1), .vec 0 (intsD x9)]) ?_ ?_
        · have h := hss11
          clear hss11
          refine (ACode_region ?_)
          refine AOps_q 26 _ rfl rfl rfl (QOp_move _ _ rfl rfl) ?_
          refine AOps_q 27 _ rfl rfl rfl (QOp_fieldAddr_pv _ _ _ _ _ 0 _ _ rfl Try.underlying24 rfl _ Try.sizeOf2 rfl rfl) ?_
          refine AOps_q 28 _ rfl rfl rfl (QOp_load_pv _ _ _ _ _ rfl Try.isAgg2 rfl rfl) ?_
          refine AOps_q 29 _ rfl rfl rfl (QOp_lss _ _ _ _ _ _ _ rfl rfl rfl) ?_
          refine AOps_q 30 _ rfl rfl rfl (QOp_move _ _ rfl rfl) ?_
          refine AOps_case 30 _ rfl (fun hb10 => ?_) (fun hb10 => ?_)
          · have h := iteT hb10 h
            refine AOps_q 31 _ rfl rfl rfl (QOp_move _ _ rfl rfl) ?_
            refine AOps_q 32 _ rfl rfl rfl (QOp_gtr _ _ _ _ _ _ _ rfl rfl rfl) ?_
            refine AOps_q 33 _ rfl rfl rfl (QOp_pick_t _ _ _ _ rfl rfl rfl) ?_
            refine AOps_nil ?_
            cases h
            exact Weak_keep 0 hm [1, 2, 5, 6, 8, 9, 33] [0, 1] _ _ rfl rfl rfl
          · have h := iteF hb10 h
            refine AOps_skip 31 rfl rfl rfl ?_
            refine AOps_skip 32 rfl rfl rfl ?_
            refine AOps_q 33 _ rfl rfl rfl (QOp_pick_f _ _ _ _ rfl rfl rfl) ?_
            refine AOps_nil ?_
            cases h
            exact Weak_keep 0 hm [1, 2, 5, 6, 8, 9, 33] [0, 1] _ _ rfl rfl rfl
        intro E' H' hw
        refine ACode_weak hw ?_
        have h := hks11
        refine ACode_cond _ rfl (fun hb12 => ?_) (fun hb12 => ?_)
        · have h := iteT hb12 h
          refine ACode_skip ?_
          cases h
          exact ⟨_, rfl, Weak_keep 0 hm [1, 2, 5, 6, 8, 9] [0, 1] _ _ rfl rfl rfl⟩
        · have h := iteF hb12 h
          refine ACode_exit ?_
          obtain ⟨rr, hz24, h2⟩ := bindO h
          obtain rfl := Option.some.inj h2
          obtain rfl := Option.some.inj (show some rr = some _ from hks13)
          have h := hz24
          cases h
          exact Weak_keep 0 hm [8] [1] _ _ rfl rfl rfl
      rintro E' H' ⟨s13, rfl, hw⟩
      refine ACode_weak hw ?_
      have h := hks13
      obtain ⟨s22, hss22, hks22⟩ := bindO h
      clear h
      refine ACode_seqJ (fun E' H' => Weak 67 G E' H' [(1, iV p1), (2, .d (.pv (colD p0) 0)), (5, .vec 0 0), (6, iV s22.1), (8, .vec 1 0), (9, iV x8)] [.vec 0 (intsD r1), .vec 0 (intsD s22.2)]) ?_ ?_
      · have h := hss22
        clear hss22
        refine ACode_block ?_
        obtain ⟨s19, hss19, hks19⟩ := bindO h
        clear h
        refine ACode_seqJ (fun E' H' => Weak 67 G E' H' [(1, iV p1), (2, .d (.pv (colD p0) 0)), (5, .vec 0 0), (6, iV x7), (8, .vec 1 0), (9, iV x8), (59, bV s19)] [.vec 0 (intsD r1), .vec 0 (intsD x9)]) ?_ ?_
        · have h := hss19
          clear hss19
          refine (ACode_quiet mixed (by kernel_rfl) ?_)
          refine AQ_q 36 _ rfl rfl rfl (QOp_move _ _ rfl rfl) ?_
          refine AQ_q 37 _ rfl rfl rfl (QOp_move _ _ rfl rfl) ?_
          obtain ⟨hc14, h⟩ := guardO h
          refine AQ_q 38 _ rfl rfl rfl (QOp_indexAddr_vec _ _ _ _ _ _ _ _ _ rfl Try.underlying38 Try.sizeOf2 hc14.1 (by rw [intsD_length]; exact hc14.2) rfl rfl rfl) ?_
          refine AQ_q 39 _ rfl rfl rfl (QOp_load_eptr _ _ _ _ _ _ _ rfl Try.isAgg2 rfl rfl (intsD_get _ _ 0 (by omega))) ?_
          refine AQ_q 40 _ rfl rfl rfl (QOp_move _ _ rfl rfl) ?_
          refine AQ_q 41 _ rfl rfl rfl (QOp_eql _ _ _ _ _ _ _ rfl rfl rfl) ?_
          refine AQ_q 42 _ rfl rfl rfl (QOp_move _ _ rfl rfl) ?_
          refine AQ_case 42 _ rfl (fun hb15 => ?_) (fun hb15 => ?_)
          · have h := iteT hb15 h
            refine AQ_q 43 _ rfl rfl rfl (QOp_move _ _ rfl rfl) ?_
            refine AQ_q 44 _ rfl rfl rfl (QOp_len_vec _ _ _ _ _ _ _ _ (intsD_length _) rfl rfl rfl rfl Try.underlying38 rfl rfl) ?_
            refine AQ_q 45 _ rfl rfl rfl (QOp_eql _ _ _ _ _ _ _ rfl rfl rfl) ?_
            refine AQ_q 46 _ rfl rfl rfl (QOp_move _ _ rfl rfl) ?_
            refine AQ_case 46 _ rfl (fun hb16 => ?_) (fun hb16 => ?_)
            · have h := iteT hb16 h
              refine AQ_skip 47 rfl rfl rfl ?_
              refine AQ_skip 48 rfl rfl rfl ?_
              refine AQ_skip 49 rfl rfl rfl ?_
              refine AQ_skip 50 rfl rfl rfl ?_
              refine AQ_skip 51 rfl rfl rfl ?_
              refine AQ_skip 52 rfl rfl rfl ?_
              refine AQ_skip 53 rfl rfl rfl ?_
              refine AQ_skip 54 rfl rfl rfl ?_
              refine AQ_skip 55 rfl rfl rfl ?_
              refine AQ_skip 56 rfl rfl rfl ?_
              refine AQ_skip 57 rfl rfl rfl ?_
              refine AQ_q 58 _ rfl rfl rfl (QOp_pick_t _ _ _ _ rfl rfl rfl) ?_
              refine AQ_q 59 _ rfl rfl rfl (QOp_pick_t _ _ _ _ rfl rfl rfl) ?_
              refine AQ_nil ?_
              cases h
              exact Weak_keep 0 hm [1, 2, 5, 6, 8, 9, 59] [0, 1] _ _ rfl rfl rfl
            · have h := iteF hb16 h
              refine AQ_q 47 _ rfl rfl rfl (QOp_loadN_pv _ _ _ _ _ _ rfl Try.isAgg24 Try.sizeOf24 rfl (colD_all _) (colD_length _)) ?_
              refine AQ_q 48 _ rfl rfl rfl (QOp_move _ _ rfl rfl) ?_
              refine AQ_q 49 _ rfl rfl rfl (QOp_move _ _ rfl rfl) ?_
              refine AQ_q 50 _ rfl rfl rfl (QOp_len_vec _ _ _ _ _ _ _ _ (intsD_length _) rfl rfl rfl rfl Try.underlying38 rfl rfl) ?_
              refine AQ_q 51 _ rfl rfl rfl (QOp_sub _ _ _ _ _ _ _ rfl rfl rfl) ?_
              obtain ⟨hc17, h⟩ := guardO h
              refine AQ_q 52 _ rfl rfl rfl (QOp_indexAddr_vec _ _ _ _ _ _ _ _ _ rfl Try.underlying38 Try.sizeOf2 hc17.1 (by rw [intsD_length]; exact hc17.2) rfl rfl rfl) ?_
              refine AQ_q 53 _ rfl rfl rfl (QOp_load_eptr _ _ _ _ _ _ _ rfl Try.isAgg2 rfl rfl (intsD_get _ _ 0 (by omega))) ?_
              refine AQ_q 54 _ rfl rfl rfl (QOp_move _ _ rfl rfl) ?_
              obtain ⟨r18, hr18, h⟩ := bindO h
              refine AQ_call 55 _ _ _ _ _ _ _ _ _ rfl rfl rfl rfl rfl rfl rfl Try.call64 rfl rfl rfl (spec_l01At_ac p0 (x9.getD (w64 ((x9.length : Int) - 1)).toNat 0) x8 _ hr18) ?_
              refine AQ_q 56 _ rfl rfl rfl (QOp_move _ _ rfl rfl) ?_
              refine AQ_q 57 _ rfl rfl rfl (QOp_eql _ _ _ _ _ _ _ rfl rfl rfl) ?_
              refine AQ_q 58 _ rfl rfl rfl (QOp_pick_f _ _ _ _ rfl rfl rfl) ?_
              refine AQ_q 59 _ rfl rfl rfl (QOp_pick_t _ _ _ _ rfl rfl rfl) ?_
              refine AQ_nil ?_
              cases h
              exact Weak_keep 0 hm [1, 2, 5, 6, 8, 9, 59] [0, 1] _ _ rfl rfl rfl
          · have h := iteF hb15 h
            refine AQ_skip 43 rfl rfl rfl ?_
            refine AQ_skip 44 rfl rfl rfl ?_
            refine AQ_skip 45 rfl rfl rfl ?_
            refine AQ_skip 46 rfl rfl rfl ?_
            refine AQ_skip 47 rfl rfl rfl ?_
            refine AQ_skip 48 rfl rfl rfl ?_
            refine AQ_skip 49 rfl rfl rfl ?_
            refine AQ_skip 50 rfl rfl rfl ?_
            refine AQ_skip 51 rfl rfl rfl ?_
            refine AQ_skip 52 rfl rfl rfl ?_
            refine AQ_skip 53 rfl rfl rfl ?_
            refine AQ_skip 54 rfl rfl rfl ?_
            refine AQ_skip 55 rfl rfl rfl ?_
            refine AQ_skip 56 rfl rfl rfl ?_
            refine AQ_skip 57 rfl rfl rfl ?_
            refine AQ_skip 58 rfl rfl rfl ?_
            refine AQ_q 59 _ rfl rfl rfl (QOp_pick_f _ _ _ _ rfl rfl rfl) ?_
            refine AQ_nil ?_
            cases h
            exact Weak_keep 0 hm [1, 2, 5, 6, 8, 9, 59] [0, 1] _ _ rfl rfl rfl
        intro E' H' hw
        refine ACode_weak hw ?_
        have h := hks19
        refine ACode_cond _ rfl (fun hb20 => ?_) (fun hb20 => ?_)
        · have h := iteT hb20 h
          refine ACode_seq (ACode_region ?_)
          refine AOps_q 60 _ rfl rfl rfl (QOp_move _ _ rfl rfl) ?_
          refine AOps_q 61 _ rfl rfl rfl (QOp_move _ _ rfl rfl) ?_
          refine AOps_buildSlice 62 _ _ _ [_] (intsD ([x8])) _ rfl rfl rfl rfl rfl (by decide) Try.underlying38 Try.sizeOf2 (zero_of Try.typeInfo2 rfl) rfl rfl (intsD_one _) ?_
          obtain ⟨hc21, h⟩ := guardO h
          refine AOps_append 63 _ _ _ _ _ _ _ _ _ _ _ _ rfl rfl rfl rfl rfl rfl rfl Try.underlying38 Try.type2 rfl rfl rfl (by decide) rfl rfl rfl rfl (intsD_one _) (by rw [intsD_length, intsD_length]; exact hc21) ?_
          rw [intsD_app]
          refine AOps_q 8 _ rfl rfl rfl (QOp_assign _ _ rfl rfl) ?_
          refine AOps_nil ?_
          refine (ACode_region ?_)
          refine AOps_q 64 _ rfl rfl rfl (QOp_move _ _ rfl rfl) ?_
          refine AOps_q 65 _ rfl rfl rfl (QOp_sub _ _ _ _ _ _ _ rfl rfl rfl) ?_
          refine AOps_q 6 _ rfl rfl rfl (QOp_assign _ _ rfl rfl) ?_
          refine AOps_nil ?_
          cases h
          exact Weak_trans (Weak_keep 0 hm [1, 2, 5, 6, 8, 9] [0, 1] _ _ rfl rfl rfl) (Weak_reset 0 hm [1, 2, 5, 6, 8, 9] _ _ rfl rfl)
        · have h := iteF hb20 h
          refine ACode_skip ?_
          cases h
          exact Weak_keep 0 hm [1, 2, 5, 6, 8, 9] [0, 1] _ _ rfl rfl rfl
      intro E' H' hw
      refine ACode_weak hw ?_
      have h := hks22
      refine (ACode_region ?_)
      refine AOps_q 34 _ rfl rfl rfl (QOp_move _ _ rfl rfl) ?_
      refine AOps_q 35 _ rfl rfl rfl (QOp_add _ _ _ _ _ _ _ rfl rfl rfl) ?_
      refine AOps_q 9 _ rfl rfl rfl (QOp_assign _ _ rfl rfl) ?_
      refine AOps_nil ?_
      exact ⟨k1, _, _, Nat.lt_succ_self _, Weak_keep 0 hm [1, 2, 5, 6, 8, 9] [0, 1] _ _ rfl rfl rfl, _, _, _, rfl, rfl, h⟩
  intro E' H' hw
  refine ACode_weak hw ?_
  have h := hks23
  refine ACode_seq (ACode_region ?_)
  refine AOps_q 66 _ rfl rfl rfl (QOp_move _ _ rfl rfl) ?_
  refine AOps_q 4 _ rfl rfl rfl (QOp_assign _ _ rfl rfl) ?_
  refine AOps_nil ?_
  refine ACode_ret ?_
  cases h
  exact ⟨_, _, Weak_reset 0 hm [4] _ _ rfl rfl, _, _, [0], _, (.cons (ResV_tmp _ _ rfl) .nil), rfl, rfl, rfl, rfl, rfl⟩

-- loop.example/g01362/spec.LongestUp
def spec_LongestUp (k : Nat) (p0 : Col) (p1 : Int) : Option (List Int × Int) :=
  (spec_l01Given k p0 p1 ([])).bind fun r1 => (if !decide (r1 = 0) then some ([], r1) else (spec_l10Longest k p0 p1).bind fun r3 => some (r3, 0))
set_option maxRecDepth 100000 in
theorem spec_LongestUp_ac (k : Nat) (p0 : Col) (p1 : Int) (r : List Int × Int) (h : spec_LongestUp k p0 p1 = some r) : AC Try.prog 34 [.d (.agg (colD p0)), iV p1] [] (fun res H' => res = [.d (.sl none (intsD r.1)), iV r.2] ∧ H' = []) := by
  refine AC_of_body true Try.func34 rfl Try.ntmps34 (rvs := [.tmp 4, .tmp 5]) rfl rfl (fun G hG => ?_)
  have hm : G.H.length = 0 := by rw [hG]; rfl
  unfold spec_LongestUp at h
  refine ACode_seq (ACode_region ?_)
  refine AOps_boxI 2 _ _ (.agg (colD p0)) (colD p0) rfl (colD_one _) rfl rfl rfl rfl rfl ?_
  refine AOps_q 4 _ rfl rfl rfl (QOp_assign _ _ rfl rfl) ?_
  refine AOps_q 5 _ rfl rfl rfl (QOp_assign _ _ rfl rfl) ?_
  refine AOps_nil ?_
  refine ACode_seq ?_
  refine ACode_seq (ACode_region ?_)
  refine AOps_q 7 _ rfl rfl rfl (QOp_loadN_pv _ _ _ _ _ _ rfl Try.isAgg24 Try.sizeOf24 rfl (colD_all _) (colD_length _)) ?_
  refine AOps_q 8 _ rfl rfl rfl (QOp_move _ _ rfl rfl) ?_
  obtain ⟨r1, hr1, h⟩ := bindO h
  refine AOps_call [] 9 _ _ _ _ _ _ _ _ _ _ rfl rfl rfl rfl rfl rfl rfl Try.call63 rfl (nodupB_sound _ rfl) rfl rfl rfl (spec_l01Given_ac k p0 p1 ([]) _ hr1) ?_
  rintro _ _ ⟨rfl, rfl⟩
  refine ⟨(fun _ h => nomatch h), (allc (trivial) (fun _ h => nomatch h)), AOps_as 9 (v' := iV r1) (H' := []) rfl rfl ?_⟩
  refine AOps_q 6 _ rfl rfl rfl (QOp_assign _ _ rfl rfl) ?_
  refine AOps_nil ?_
  refine ACode_seq (ACode_region ?_)
  refine AOps_q 10 _ rfl rfl rfl (QOp_move _ _ rfl rfl) ?_
  refine AOps_q 11 _ rfl rfl rfl (QOp_neq _ _ _ _ _ _ _ rfl rfl rfl) ?_
  refine AOps_nil ?_
  refine ACode_cond _ rfl (fun hb2 => ?_) (fun hb2 => ?_)
  · have h := iteT hb2 h
    refine ACode_seq (ACode_region ?_)
    refine AOps_q 12 _ rfl rfl rfl (QOp_move _ _ rfl rfl) ?_
    refine AOps_q 4 _ rfl rfl rfl (QOp_assign _ _ rfl rfl) ?_
    refine AOps_q 5 _ rfl rfl rfl (QOp_assign _ _ rfl rfl) ?_
    refine AOps_nil ?_
    refine ACode_ret ?_
    cases h
    exact ⟨_, _, fun r a w h => ⟨r, h⟩, _, _, [], _, (.cons (ResV_tmp _ _ rfl) (.cons (ResV_tmp _ _ rfl) .nil)), rfl, rfl, rfl, rfl, rfl⟩
  · have h := iteF hb2 h
    refine ACode_skip ?_
    refine ACode_seq (ACode_region ?_)
    refine AOps_q 13 _ rfl rfl rfl (QOp_loadN_pv _ _ _ _ _ _ rfl Try.isAgg24 Try.sizeOf24 rfl (colD_all _) (colD_length _)) ?_
    refine AOps_q 14 _ rfl rfl rfl (QOp_move _ _ rfl rfl) ?_
    obtain ⟨r3, hr3, h⟩ := bindO h
    refine AOps_call [] 15 _ _ _ _ _ _ _ _ _ _ rfl rfl rfl rfl rfl rfl rfl Try.call74 rfl (nodupB_sound _ rfl) rfl rfl rfl (spec_l10Longest_ac k p0 p1 _ hr3) ?_
    rintro _ _ ⟨rfl, rfl⟩
    refine ⟨(allc (fun _ _ => trivial) (fun _ h => nomatch h)), (allc (trivial) (fun _ h => nomatch h)), AOps_as 15 (v' := .vec 0 0) (H' := [.vec 0 (intsD r3)]) rfl rfl ?_⟩
    refine AOps_q 4 _ rfl rfl rfl (QOp_assign _ _ rfl rfl) ?_
    refine AOps_q 5 _ rfl rfl rfl (QOp_assign _ _ rfl rfl) ?_
    refine AOps_nil ?_
    refine ACode_ret ?_
    cases h
    exact ⟨_, _, fun r a w h => ⟨r, h⟩, _, _, [], _, (.cons (ResV_tmp _ _ rfl) (.cons (ResV_tmp _ _ rfl) .nil)), rfl, rfl, rfl, rfl, rfl⟩

-- slices.Max[[]int64,int64]
def slices_Max_l0 (p0 : List Int) : Nat → Int → Int → Option (Int)
  | 0, _, _ => none
  | k0 + 1, x4, x5 => (if decide (x5 < (p0.length : Int)) then (if 0 ≤ x5 ∧ x5 < (p0.length : Int) then slices_Max_l0 p0 k0 (if x4 < (p0.getD x5.toNat 0) then (p0.getD x5.toNat 0) else x4) (w64 (x5 + 1)) else none) else some x4)
def slices_Max (k : Nat) (p0 : List Int) : Option (Int) :=
  ((if decide ((p0.length : Int) < 1) then none else some ()) : Option (Unit)).bind fun s2 => (if 0 ≤ (0 : Int) ∧ (0 : Int) < (p0.length : Int) then (slices_Max_l0 p0 k (p0.getD (0 : Int).toNat 0) 1 : Option (Int)).bind fun s8 => some s8 else none)
set_option maxRecDepth 100000 in
theorem slices_Max_ac (k : Nat) (p0 : List Int) (r : Int) (h : slices_Max k p0 = some r) : AC Try.prog 75 [.d (.sl none (intsD p0))] [] (fun res H' => res = [iV r] ∧ H' = []) := by
  refine AC_of_body true Try.func75 rfl Try.ntmps75 (rvs := [.tmp 2]) rfl rfl (fun G hG => ?_)
  have hm : G.H.length = 0 := by rw [hG]; rfl
  unfold slices_Max at h
  refine ACode_seq (ACode_region ?_)
  refine AOps_q 2 _ rfl rfl rfl (QOp_assign _ _ rfl rfl) ?_
  refine AOps_nil ?_
  obtain ⟨s2, hss2, hks2⟩ := bindO h
  clear h
  refine ACode_seqJ (fun E' H' => Weak 25 G E' H' [(0, .d (.sl none (intsD p0)))] []) ?_ ?_
  · have h := hss2
    clear hss2
    refine ACode_seq (ACode_region ?_)
    refine AOps_q 5 _ rfl rfl rfl (QOp_move _ _ rfl rfl) ?_
    refine AOps_q 6 _ rfl rfl rfl (QOp_len_sl _ _ _ _ _ _ _ (intsD_length _) rfl rfl rfl rfl Try.underlying38 rfl) ?_
    refine AOps_q 7 _ rfl rfl rfl (QOp_lss _ _ _ _ _ _ _ rfl rfl rfl) ?_
    refine AOps_nil ?_
    refine ACode_cond _ rfl (fun hb1 => ?_) (fun hb1 => ?_)
    · have h := iteT hb1 h
      refine (ACode_region ?_)
      cases h
    · have h := iteF hb1 h
      refine ACode_skip ?_
      cases h
      exact Weak_keep 0 hm [0] [] _ _ rfl rfl rfl
  intro E' H' hw
  refine ACode_weak hw ?_
  have h := hks2
  refine ACode_seq (ACode_region ?_)
  refine AOps_q 9 _ rfl rfl rfl (QOp_move _ _ rfl rfl) ?_
  obtain ⟨hc3, h⟩ := guardO h
  refine AOps_q 10 _ rfl rfl rfl (QOp_indexAddr_sl _ _ _ _ _ _ _ _ rfl Try.underlying38 Try.sizeOf2 hc3.1 (by rw [intsD_length]; exact hc3.2) rfl rfl) ?_
  refine AOps_q 11 _ rfl rfl rfl (QOp_load_pv _ _ _ _ _ rfl Try.isAgg2 rfl (intsD_get _ _ 0 (by omega))) ?_
  refine AOps_q 3 _ rfl rfl rfl (QOp_assign _ _ rfl rfl) ?_
  refine AOps_nil ?_
  obtain ⟨s8, hss8, hks8⟩ := bindO h
  clear h
  refine ACode_seqJ (fun E' H' => Weak 25 G E' H' [(3, iV s8)] []) ?_ ?_
  · have h := hss8
    clear hss8
    refine ACode_seq (ACode_region ?_)
    refine AOps_q 4 _ rfl rfl rfl (QOp_assign _ _ rfl rfl) ?_
    refine AOps_nil ?_
    refine ACode_block ?_
    refine ACode_loopW (fun k0 E H => ∃ (x4 : Int) (x5 : Int), E = [(0, .d (.sl none (intsD p0))), (3, iV x4), (4, iV x5)] ∧ H = [] ∧ slices_Max_l0 p0 k0 x4 x5 = some s8) k _ _ (Weak_keep 0 hm [0, 3, 4] [] _ _ rfl rfl rfl) ⟨_, _, rfl, rfl, h⟩ ?_
    clear h
    rintro k0 E H ⟨x4, x5, rfl, rfl, h⟩
    cases k0 with
    | zero => cases (show (none : Option (Int)) = some _ from h)
    | succ k0 =>
      rw [slices_Max_l0] at h
      refine ACode_seq ?_
      refine ACode_seq (ACode_region ?_)
      refine AOps_q 12 _ rfl rfl rfl (QOp_move _ _ rfl rfl) ?_
      refine AOps_q 13 _ rfl rfl rfl (QOp_move _ _ rfl rfl) ?_
      refine AOps_q 14 _ rfl rfl rfl (QOp_len_sl _ _ _ _ _ _ _ (intsD_length _) rfl rfl rfl rfl Try.underlying38 rfl) ?_
      refine AOps_q 15 _ rfl rfl rfl (QOp_lss _ _ _ _ _ _ _ rfl rfl rfl) ?_
      refine AOps_nil ?_
      refine ACode_cond _ rfl (fun hb6 => ?_) (fun hb6 => ?_)
      · have h := iteT hb6 h
        refine ACode_skip ?_
        refine ACode_seq ?_
        refine ACode_block ?_
        refine (ACode_region ?_)
        refine AOps_q 18 _ rfl rfl rfl (QOp_move _ _ rfl rfl) ?_
        refine AOps_q 19 _ rfl rfl rfl (QOp_move _ _ rfl rfl) ?_
        refine AOps_q 20 _ rfl rfl rfl (QOp_move _ _ rfl rfl) ?_
        obtain ⟨hc7, h⟩ := guardO h
        refine AOps_q 21 _ rfl rfl rfl (QOp_indexAddr_sl _ _ _ _ _ _ _ _ rfl Try.underlying38 Try.sizeOf2 hc7.1 (by rw [intsD_length]; exact hc7.2) rfl rfl) ?_
        refine AOps_q 22 _ rfl rfl rfl (QOp_load_pv _ _ _ _ _ rfl Try.isAgg2 rfl (intsD_get _ _ 0 (by omega))) ?_
        refine AOps_q 23 _ rfl rfl rfl (QOp_max _ _ _ _ _ _ rfl rfl rfl rfl rfl) ?_
        refine AOps_q 3 _ rfl rfl rfl (QOp_assign _ _ rfl rfl) ?_
        refine AOps_nil ?_
        refine (ACode_region ?_)
        refine AOps_q 16 _ rfl rfl rfl (QOp_move _ _ rfl rfl) ?_
        refine AOps_q 17 _ rfl rfl rfl (QOp_add _ _ _ _ _ _ _ rfl rfl rfl) ?_
        refine AOps_q 4 _ rfl rfl rfl (QOp_assign _ _ rfl rfl) ?_
        refine AOps_nil ?_
        exact ⟨k0, _, _, Nat.lt_succ_self _, Weak_keep 0 hm [0, 3, 4] [] _ _ rfl rfl rfl, _, _, rfl, rfl, h⟩
      · have h := iteF hb6 h
        refine ACode_exit ?_
        cases h
        exact Weak_keep 0 hm [3] [] _ _ rfl rfl rfl
  intro E' H' hw
  refine ACode_weak hw ?_
  have h := hks8
  refine ACode_seq (ACode_region ?_)
  refine AOps_q 24 _ rfl rfl rfl (QOp_move _ _ rfl rfl) ?_
  refine AOps_q 2 _ rfl rfl rfl (QOp_assign _ _ rfl rfl) ?_
  refine AOps_nil ?_
  refine ACode_ret ?_
  cases h
  exact ⟨_, _, fun r a w h => ⟨r, h⟩, _, _, [], _, (.cons (ResV_tmp _ _ rfl) .nil), rfl, rfl, rfl, rfl, rfl⟩

-- loop.example/g01362/impl.LongestUp
def impl_LongestUp_l0 (p0 : Col) (p1 : Int) (r3 : List Int × List Int) : Nat → Int → Int → (List Int) → Option (List Int)
  | 0, _, _, _ => none
  | k0 + 1, x5, x6, x7 => (if decide (x6 < p0.p) then (((if 0 ≤ x6 ∧ x6 < (r3.2.length : Int) then (if decide ((r3.2.getD x6.toNat 0) = x5) then (if decide ((x7.length : Int) = 0) then some true else (if 0 ≤ w64 ((x7.length : Int) - 1) ∧ w64 ((x7.length : Int) - 1) < (x7.length : Int) then (impl_Colouring_at p0 (x7.getD (w64 ((x7.length : Int) - 1)).toNat 0) x6).bind fun r13 => some (decide (r13 = p1)) else none)) else some false) else none) : Option (Bool)).bind fun s14 => (if s14 then (if x7.length + ([x6]).length ≤ 1099511627776 then some (w64 (x5 - 1), (x7 ++ ([x6]))) else none) else some (x5, x7)) : Option (Int × List Int)).bind fun s17 => impl_LongestUp_l0 p0 p1 r3 k0 s17.1 (w64 (x6 + 1)) s17.2 else some x7)
def impl_LongestUp (k : Nat) (p0 : Col) (p1 : Int) : Option (Option (List Int) × Int) :=
  (impl_Colouring_colourCode k p0 p1 true).bind fun r1 => (if !decide (r1 = 0) then some (none, r1) else (impl_Colouring_ups k p0 p1).bind fun r3 => (slices_Max k r3.2).bind fun r4 => (impl_LongestUp_l0 p0 p1 r3 k r4 0 ([] : List Int) : Option (List Int)).bind fun s18 => some (some s18, 0))
set_option maxRecDepth 100000 in
theorem impl_LongestUp_ac (k : Nat) (p0 : Col) (p1 : Int) (r : Option (List Int) × Int) (h : impl_LongestUp k p0 p1 = some r) : AC Try.prog 35 [.d (.agg (colD p0)), iV p1] [] (fun res H' => res = [ownA 0 (r.1.map intsD), iV r.2] ∧ H' = [] ++ ownH (r.1.map intsD)) := by
  refine AC_of_body false Try.func35 rfl Try.ntmps35 (rvs := [.tmp 4, .tmp 5]) rfl rfl (fun G hG => ?_)
  have hm : G.H.length = 0 := by rw [hG]; rfl
  unfold impl_LongestUp at h
  refine ACode_seq (ACode_region ?_)
  refine AOps_boxI 2 _ _ (.agg (colD p0)) (colD p0) rfl (colD_one _) rfl rfl rfl rfl rfl ?_
  refine AOps_q 4 _ rfl rfl rfl (QOp_assign _ _ rfl rfl) ?_
  refine AOps_q 5 _ rfl rfl rfl (QOp_assign _ _ rfl rfl) ?_
  refine AOps_nil ?_
  refine ACode_seq ?_
  refine ACode_seq (ACode_region ?_)
  refine AOps_q 12 _ rfl rfl rfl (QOp_move _ _ rfl rfl) ?_
  obtain ⟨r1, hr1, h⟩ := bindO h
  refine AOps_call [] 13 _ _ _ _ _ _ _ _ _ _ rfl rfl rfl rfl rfl rfl rfl Try.call65 rfl (nodupB_sound _ rfl) rfl rfl rfl (impl_Colouring_colourCode_ac k p0 p1 true _ hr1) ?_
  rintro _ _ ⟨rfl, rfl⟩
  refine ⟨(fun _ h => nomatch h), (allc (trivial) (fun _ h => nomatch h)), AOps_as 13 (v' := iV r1) (H' := []) rfl rfl ?_⟩
  refine AOps_q 6 _ rfl rfl rfl (QOp_assign _ _ rfl rfl) ?_
  refine AOps_nil ?_
  refine ACode_seq (ACode_region ?_)
  refine AOps_q 14 _ rfl rfl rfl (QOp_move _ _ rfl rfl) ?_
  refine AOps_q 15 _ rfl rfl rfl (QOp_neq _ _ _ _ _ _ _ rfl rfl rfl) ?_
  refine AOps_nil ?_
  refine ACode_cond _ rfl (fun hb2 => ?_) (fun hb2 => ?_)
  · have h := iteT hb2 h
    refine ACode_seq (ACode_region ?_)
    refine AOps_q 16 _ rfl rfl rfl (QOp_move _ _ rfl rfl) ?_
    refine AOps_q 4 _ rfl rfl rfl (QOp_assign _ _ rfl rfl) ?_
    refine AOps_q 5 _ rfl rfl rfl (QOp_assign _ _ rfl rfl) ?_
    refine AOps_nil ?_
    refine ACode_ret ?_
    cases h
    exact ⟨_, _, fun r a w h => ⟨r, h⟩, _, _, [], _, (.cons (ResV_tmp _ _ rfl) (.cons (ResV_tmp _ _ rfl) .nil)), rfl, rfl, rfl, rfl, rfl⟩
  · have h := iteF hb2 h
    refine ACode_skip ?_
    refine ACode_seq (ACode_region ?_)
    refine AOps_q 18 _ rfl rfl rfl (QOp_move _ _ rfl rfl) ?_
    obtain ⟨r3, hr3, h⟩ := bindO h
    refine AOps_call [] 19 _ _ _ _ _ _ _ _ _ _ rfl rfl rfl rfl rfl rfl rfl Try.call66 rfl (nodupB_sound _ rfl) rfl rfl rfl (impl_Colouring_ups_ac k p0 p1 _ hr3) ?_
    rintro _ _ ⟨rfl, rfl⟩
    refine ⟨(allc (fun _ _ => trivial) (allc (fun _ _ => trivial) (fun _ h => nomatch h))), (allc (trivial) (allc (trivial) (fun _ h => nomatch h))), AOps_as 19 (v' := .tup [.vec 0 0, .vec 1 0]) (H' := [.vec 0 (intsD r3.1), .vec 0 (intsD r3.2)]) rfl rfl ?_⟩
    refine AOps_q 17 _ rfl rfl rfl (QOp_move _ _ rfl rfl) ?_
    refine AOps_q 20 _ rfl rfl rfl (QOp_extract _ _ _ _ rfl rfl rfl) ?_
    refine AOps_q 21 _ rfl rfl rfl (QOp_extract _ _ _ _ rfl rfl rfl) ?_
    refine AOps_q 7 _ rfl rfl rfl (QOp_assign _ _ rfl rfl) ?_
    refine AOps_q 8 _ rfl rfl rfl (QOp_assign _ _ rfl rfl) ?_
    refine AOps_nil ?_
    refine ACode_seq (ACode_region ?_)
    refine AOps_q 22 _ rfl rfl rfl (QOp_move _ _ rfl rfl) ?_
    obtain ⟨r4, hr4, h⟩ := bindO h
    refine AOps_callL [] 23 _ _ _ _ _ _ _ _ _ _ rfl rfl rfl rfl rfl rfl rfl Try.call75 rfl (nodupB_sound _ rfl) rfl rfl rfl (slices_Max_ac k r3.2 _ hr4) ?_
    rintro _ _ ⟨rfl, rfl⟩
    refine ⟨(fun _ h => nomatch h), (allc (flat_s _) (fun _ h => nomatch h)), AOps_as 23 (v' := iV r4) (H' := [.vec 0 (intsD r3.1), .vec 0 (intsD r3.2)]) rfl rfl ?_⟩
    refine AOps_buildSlice 24 _ _ _ [] (intsD ([] : List Int)) _ rfl rfl rfl rfl rfl (by decide) Try.underlying38 Try.sizeOf2 (zero_of Try.typeInfo2 rfl) rfl rfl (intsD_one _) ?_
    refine AOps_q 9 _ rfl rfl rfl (QOp_assign _ _ rfl rfl) ?_
    refine AOps_q 10 _ rfl rfl rfl (QOp_assign _ _ rfl rfl) ?_
    refine AOps_nil ?_
    obtain ⟨s18, hss18, hks18⟩ := bindO h
    clear h
    refine ACode_seqJ (fun E' H' => Weak 61 G E' H' [(10, .vec 0 0)] [.vec 0 (intsD s18)]) ?_ ?_
    · have h := hss18
      clear hss18
      refine ACode_seq (ACode_region ?_)
      refine AOps_q 25 _ rfl rfl rfl (QOp_fieldAddr_pv _ _ _ _ _ 0 _ _ rfl Try.underlying24 rfl _ Try.sizeOf2 rfl rfl) ?_
      refine AOps_q 26 _ rfl rfl rfl (QOp_load_pv _ _ _ _ _ rfl Try.isAgg2 rfl rfl) ?_
      refine AOps_q 27 _ rfl rfl rfl (QOp_move _ _ rfl rfl) ?_
      refine AOps_nil ?_
      refine ACode_block ?_
      refine ACode_loopW (fun k0 E H => ∃ (x5 : Int) (x6 : Int) (x7 : List Int), E = [(1, iV p1), (2, .d (.pv (colD p0) 0)), (8, .vec 0 0), (9, iV x5), (10, .vec 1 0), (26, iV p0.p), (27, iV x6)] ∧ H = [.vec 0 (intsD r3.2), .vec 0 (intsD x7)] ∧ impl_LongestUp_l0 p0 p1 r3 k0 x5 x6 x7 = some s18) k _ _ (Weak_keep 0 hm [1, 2, 8, 9, 10, 26, 27] [1, 2] _ _ rfl rfl rfl) ⟨_, _, _, rfl, rfl, h⟩ ?_
      clear h
      rintro k0 E H ⟨x5, x6, x7, rfl, rfl, h⟩
      cases k0 with
      | zero => cases (show (none : Option (List Int)) = some _ from h)
      | succ k0 =>
        rw [impl_LongestUp_l0] at h
        refine ACode_seq (ACode_region ?_)
        refine AOps_q 28 _ rfl rfl rfl (QOp_lss _ _ _ _ _ _ _ rfl rfl rfl) ?_
        refine AOps_nil ?_
        refine ACode_seq ?_
        refine ACode_cond _ rfl (fun hb8 => ?_) (fun hb8 => ?_)
        · have h := iteT hb8 h
          refine ACode_skip ?_
          obtain ⟨s17, hss17, hks17⟩ := bindO h
          clear h
          refine ACode_seqJ (fun E' H' => Weak 61 G E' H' [(1, iV p1), (2, .d (.pv (colD p0) 0)), (8, .vec 0 0), (9, iV s17.1), (10, .vec 1 0), (26, iV p0.p), (27, iV x6)] [.vec 0 (intsD r3.2), .vec 0 (intsD s17.2)]) ?_ ?_
          · have h := hss17
            clear hss17
            refine ACode_block ?_
            refine ACode_seq (ACode_region ?_)
            refine AOps_q 29 _ rfl rfl rfl (QOp_move _ _ rfl rfl) ?_
            refine AOps_q 11 _ rfl rfl rfl (QOp_assign _ _ rfl rfl) ?_
            refine AOps_nil ?_
            obtain ⟨s14, hss14, hks14⟩ := bindO h
            clear h
            refine ACode_seqJ (fun E' H' => Weak 61 G E' H' [(1, iV p1), (2, .d (.pv (colD p0) 0)), (8, .vec 0 0), (9, iV x5), (10, .vec 1 0), (11, iV x6), (26, iV p0.p), (27, iV x6), (52, bV s14)] [.vec 0 (intsD r3.2), .vec 0 (intsD x7)]) ?_ ?_
            · have h := hss14
              clear hss14
              refine (ACode_region ?_)
              refine AOps_q 30 _ rfl rfl rfl (QOp_move _ _ rfl rfl) ?_
              refine AOps_q 31 _ rfl rfl rfl (QOp_move _ _ rfl rfl) ?_
              obtain ⟨hc9, h⟩ := guardO h
              refine AOps_q 32 _ rfl rfl rfl (QOp_indexAddr_vec _ _ _ _ _ _ _ _ _ rfl Try.underlying38 Try.sizeOf2 hc9.1 (by rw [intsD_length]; exact hc9.2) rfl rfl rfl) ?_
              refine AOps_q 33 _ rfl rfl rfl (QOp_load_eptr _ _ _ _ _ _ _ rfl Try.isAgg2 rfl rfl (intsD_get _ _ 0 (by omega))) ?_
              refine AOps_q 34 _ rfl rfl rfl (QOp_move _ _ rfl rfl) ?_
              refine AOps_q 35 _ rfl rfl rfl (QOp_eql _ _ _ _ _ _ _ rfl rfl rfl) ?_
              refine AOps_q 36 _ rfl rfl rfl (QOp_move _ _ rfl rfl) ?_
              refine AOps_case 36 _ rfl (fun hb10 => ?_) (fun hb10 => ?_)
              · have h := iteT hb10 h
                refine AOps_q 37 _ rfl rfl rfl (QOp_move _ _ rfl rfl) ?_
                refine AOps_q 38 _ rfl rfl rfl (QOp_len_vec _ _ _ _ _ _ _ _ (intsD_length _) rfl rfl rfl rfl Try.underlying38 rfl rfl) ?_
                refine AOps_q 39 _ rfl rfl rfl (QOp_eql _ _ _ _ _ _ _ rfl rfl rfl) ?_
                refine AOps_q 40 _ rfl rfl rfl (QOp_move _ _ rfl rfl) ?_
                refine AOps_case 40 _ rfl (fun hb11 => ?_) (fun hb11 => ?_)
                · have h := iteT hb11 h
                  refine AOps_skip 41 rfl rfl rfl ?_
                  refine AOps_skip 42 rfl rfl rfl ?_
                  refine AOps_skip 43 rfl rfl rfl ?_
                  refine AOps_skip 44 rfl rfl rfl ?_
                  refine AOps_skip 45 rfl rfl rfl ?_
                  refine AOps_skip 46 rfl rfl rfl ?_
                  refine AOps_skip 47 rfl rfl rfl ?_
                  refine AOps_skip 48 rfl rfl rfl ?_
                  refine AOps_skip 49 rfl rfl rfl ?_
                  refine AOps_skip 50 rfl rfl rfl ?_
                  refine AOps_q 51 _ rfl rfl rfl (QOp_pick_t _ _ _ _ rfl rfl rfl) ?_
                  refine AOps_q 52 _ rfl rfl rfl (QOp_pick_t _ _ _ _ rfl rfl rfl) ?_
                  refine AOps_nil ?_
                  cases h
                  exact Weak_keep 0 hm [1, 2, 8, 9, 10, 11, 26, 27, 52] [0, 1] _ _ rfl rfl rfl
                · have h := iteF hb11 h
                  refine AOps_q 41 _ rfl rfl rfl (QOp_move _ _ rfl rfl) ?_
                  refine AOps_q 42 _ rfl rfl rfl (QOp_move _ _ rfl rfl) ?_
                  refine AOps_q 43 _ rfl rfl rfl (QOp_len_vec _ _ _ _ _ _ _ _ (intsD_length _) rfl rfl rfl rfl Try.underlying38 rfl rfl) ?_
                  refine AOps_q 44 _ rfl rfl rfl (QOp_sub _ _ _ _ _ _ _ rfl rfl rfl) ?_
                  obtain ⟨hc12, h⟩ := guardO h
                  refine AOps_q 45 _ rfl rfl rfl (QOp_indexAddr_vec _ _ _ _ _ _ _ _ _ rfl Try.underlying38 Try.sizeOf2 hc12.1 (by rw [intsD_length]; exact hc12.2) rfl rfl rfl) ?_
                  refine AOps_q 46 _ rfl rfl rfl (QOp_load_eptr _ _ _ _ _ _ _ rfl Try.isAgg2 rfl rfl (intsD_get _ _ 0 (by omega))) ?_
                  refine AOps_q 47 _ rfl rfl rfl (QOp_move _ _ rfl rfl) ?_
                  obtain ⟨r13, hr13, h⟩ := bindO h
                  refine AOps_call [] 48 _ _ _ _ _ _ _ _ _ _ rfl rfl rfl rfl rfl rfl rfl Try.call62 rfl (nodupB_sound _ rfl) rfl rfl rfl (impl_Colouring_at_ac p0 (x7.getD (w64 ((x7.length : Int) - 1)).toNat 0) x6 _ hr13) ?_
                  rintro _ _ ⟨rfl, rfl⟩
                  refine ⟨(fun _ h => nomatch h), (allc (trivial) (fun _ h => nomatch h)), AOps_as 48 (v' := iV r13) (H' := [.vec 0 (intsD r3.2), .vec 0 (intsD x7)]) rfl rfl ?_⟩
                  refine AOps_q 49 _ rfl rfl rfl (QOp_move _ _ rfl rfl) ?_
                  refine AOps_q 50 _ rfl rfl rfl (QOp_eql _ _ _ _ _ _ _ rfl rfl rfl) ?_
                  refine AOps_q 51 _ rfl rfl rfl (QOp_pick_f _ _ _ _ rfl rfl rfl) ?_
                  refine AOps_q 52 _ rfl rfl rfl (QOp_pick_t _ _ _ _ rfl rfl rfl) ?_
                  refine AOps_nil ?_
                  cases h
                  exact Weak_keep 0 hm [1, 2, 8, 9, 10, 11, 26, 27, 52] [0, 1] _ _ rfl rfl rfl
              · have h := iteF hb10 h
                refine AOps_skip 37 rfl rfl rfl ?_
                refine AOps_skip 38 rfl rfl rfl ?_
                refine AOps_skip 39 rfl rfl rfl ?_
                refine AOps_skip 40 rfl rfl rfl ?_
                refine AOps_skip 41 rfl rfl rfl ?_
                refine AOps_skip 42 rfl rfl rfl ?_
                refine AOps_skip 43 rfl rfl rfl ?_
                refine AOps_skip 44 rfl rfl rfl ?_
                refine AOps_skip 45 rfl rfl rfl ?_
                refine AOps_skip 46 rfl rfl rfl ?_
                refine AOps_skip 47 rfl rfl rfl ?_
                refine AOps_skip 48 rfl rfl rfl ?_
                refine AOps_skip 49 rfl rfl rfl ?_
                refine AOps_skip 50 rfl rfl rfl ?_
                refine AOps_skip 51 rfl rfl rfl ?_
                refine AOps_q 52 _ rfl rfl rfl (QOp_pick_f _ _ _ _ rfl rfl rfl) ?_
                refine AOps_nil ?_
                cases h
                exact Weak_keep 0 hm [1, 2, 8, 9, 10, 11, 26, 27, 52] [0, 1] _ _ rfl rfl rfl
            intro E' H' hw
            refine ACode_weak hw ?_
            have h := hks14
            refine ACode_cond _ rfl (fun hb15 => ?_) (fun hb15 => ?_)
            · have h := iteT hb15 h
              refine ACode_seq (ACode_region ?_)
              refine AOps_q 53 _ rfl rfl rfl (QOp_move _ _ rfl rfl) ?_
              refine AOps_q 54 _ rfl rfl rfl (QOp_move _ _ rfl rfl) ?_
              refine AOps_buildSlice 55 _ _ _ [_] (intsD ([x6])) _ rfl rfl rfl rfl rfl (by decide) Try.underlying38 Try.sizeOf2 (zero_of Try.typeInfo2 rfl) rfl rfl (intsD_one _) ?_
              obtain ⟨hc16, h⟩ := guardO h
              refine AOps_append 56 _ _ _ _ _ _ _ _ _ _ _ _ rfl rfl rfl rfl rfl rfl rfl Try.underlying38 Try.type2 rfl rfl rfl (by decide) rfl rfl rfl rfl (intsD_one _) (by rw [intsD_length, intsD_length]; exact hc16) ?_
              rw [intsD_app]
              refine AOps_q 10 _ rfl rfl rfl (QOp_assign _ _ rfl rfl) ?_
              refine AOps_nil ?_
              refine (ACode_region ?_)
              refine AOps_q 57 _ rfl rfl rfl (QOp_move _ _ rfl rfl) ?_
              refine AOps_q 58 _ rfl rfl rfl (QOp_sub _ _ _ _ _ _ _ rfl rfl rfl) ?_
              refine AOps_q 9 _ rfl rfl rfl (QOp_assign _ _ rfl rfl) ?_
              refine AOps_nil ?_
              cases h
              exact Weak_trans (Weak_keep 0 hm [1, 2, 8, 9, 10, 26, 27] [0, 1] _ _ rfl rfl rfl) (Weak_reset 0 hm [1, 2, 8, 9, 10, 26, 27] _ _ rfl rfl)
            · have h := iteF hb15 h
              refine ACode_skip ?_
              cases h
              exact Weak_keep 0 hm [1, 2, 8, 9, 10, 26, 27] [0, 1] _ _ rfl rfl rfl
          intro E' H' hw
          refine ACode_weak hw ?_
          have h := hks17
          refine (ACode_region ?_)
          refine AOps_q 59 _ rfl rfl rfl (QOp_add _ _ _ _ _ _ _ rfl rfl rfl) ?_
          refine AOps_q 27 _ rfl rfl rfl (QOp_move _ _ rfl rfl) ?_
          refine AOps_nil ?_
          exact ⟨k0, _, _, Nat.lt_succ_self _, Weak_keep 0 hm [1, 2, 8, 9, 10, 26, 27] [0, 1] _ _ rfl rfl rfl, _, _, _, rfl, rfl, h⟩
        · have h := iteF hb8 h
          refine ACode_exit ?_
          cases h
          exact Weak_keep 0 hm [10] [1] _ _ rfl rfl rfl
    intro E' H' hw
    refine ACode_weak hw ?_
    have h := hks18
    refine ACode_seq (ACode_region ?_)
    refine AOps_q 60 _ rfl rfl rfl (QOp_move _ _ rfl rfl) ?_
    refine AOps_q 4 _ rfl rfl rfl (QOp_assign _ _ rfl rfl) ?_
    refine AOps_q 5 _ rfl rfl rfl (QOp_assign _ _ rfl rfl) ?_
    refine AOps_nil ?_
    refine ACode_ret ?_
    cases h
    exact ⟨_, _, Weak_reset 0 hm [4, 5] _ _ rfl rfl, _, _, [0], _, (.cons (ResV_tmp _ _ rfl) (.cons (ResV_tmp _ _ rfl) .nil)), rfl, rfl, rfl, rfl, rfl⟩

-- loop.example/g01362/laws.FnExactLongestUp
def laws_FnExactLongestUp (k : Nat) (p0 : Col) (p1 : Int) : Option (Bool) :=
  (laws_toColouring k p0).bind fun r1 => (spec_LongestUp k r1 p1).bind fun r2 => (laws_toColouring k p0).bind fun r3 => (impl_LongestUp k r3 p1).bind fun r4 => (match r4.1 with | none => (((laws_eqInt64S k ([]) r2.1).bind fun r7 => (if !r7 then some true else some (!decide (r4.2 = r2.2))) : Option (Bool)).bind fun s9 => (if s9 then some (.inr false) else some (.inl ())) : Option (Sum (Unit) (Bool))).bind fun os11 => (match os11 with | .inl s11 => (laws_markInt64S_d0 k ([]) 1).bind fun r12 => (laws_heldInt64S k ([]) 1).bind fun r13 => (if decide (r13 < 0) then some false else (if !decide (r13 = r12) then some false else (laws_toColouring k p0).bind fun r16 => (impl_LongestUp k r16 p1).bind fun r17 => (match r17.1 with | none => (((laws_eqInt64S k ([]) r2.1).bind fun r20 => (if !r20 then some true else some (!decide (r17.2 = r2.2))) : Option (Bool)).bind fun s22 => (if s22 then some (.inr false) else some (.inl ())) : Option (Sum (Unit) (Bool))).bind fun os24 => (match os24 with | .inl s24 => (laws_heldInt64S k ([]) 1).bind fun r25 => (if decide (r25 < 0) then some false else (if !decide (r25 = r12) then some false else some true)) | .inr rr => some rr) | some l18 => (((laws_eqInt64S k l18 r2.1).bind fun r28 => (if !r28 then some true else some (!decide (r17.2 = r2.2))) : Option (Bool)).bind fun s30 => (if s30 then some (.inr false) else some (.inl ())) : Option (Sum (Unit) (Bool))).bind fun os32 => (match os32 with | .inl s32 => (laws_heldInt64S k ([]) 1).bind fun r33 => (if decide (r33 < 0) then some false else (if !decide (r33 = r12) then some false else some true)) | .inr rr => some rr)))) | .inr rr => some rr) | some l5 => (((laws_eqInt64S k l5 r2.1).bind fun r36 => (if !r36 then some true else some (!decide (r4.2 = r2.2))) : Option (Bool)).bind fun s38 => (if s38 then some (.inr false) else some (.inl ())) : Option (Sum (Unit) (Bool))).bind fun os40 => (match os40 with | .inl s40 => (laws_markInt64S k l5 1).bind fun r41 => (laws_heldInt64S k r41.2 1).bind fun r42 => (if decide (r42 < 0) then some false else (if !decide (r42 = r41.1) then some false else (laws_toColouring k p0).bind fun r45 => (impl_LongestUp k r45 p1).bind fun r46 => (match r46.1 with | none => (((laws_eqInt64S k ([]) r2.1).bind fun r49 => (if !r49 then some true else some (!decide (r46.2 = r2.2))) : Option (Bool)).bind fun s51 => (if s51 then some (.inr false) else some (.inl ())) : Option (Sum (Unit) (Bool))).bind fun os53 => (match os53 with | .inl s53 => (laws_heldInt64S k r41.2 1).bind fun r54 => (if decide (r54 < 0) then some false else (if !decide (r54 = r41.1) then some false else some true)) | .inr rr => some rr) | some l47 => (((laws_eqInt64S k l47 r2.1).bind fun r57 => (if !r57 then some true else some (!decide (r46.2 = r2.2))) : Option (Bool)).bind fun s59 => (if s59 then some (.inr false) else some (.inl ())) : Option (Sum (Unit) (Bool))).bind fun os61 => (match os61 with | .inl s61 => (laws_heldInt64S k r41.2 1).bind fun r62 => (if decide (r62 < 0) then some false else (if !decide (r62 = r41.1) then some false else some true)) | .inr rr => some rr)))) | .inr rr => some rr))
set_option maxRecDepth 100000 in
theorem laws_FnExactLongestUp_ac (k : Nat) (p0 : Col) (p1 : Int) (r : Bool) (h : laws_FnExactLongestUp k p0 p1 = some r) : AC Try.prog 8 [.d (.agg (colD p0)), iV p1] [] (fun res H' => res = [bV r] ∧ H' = []) := by
  refine AC_of_body true Try.func8 rfl Try.ntmps8 (rvs := [.tmp 4]) rfl rfl (fun G hG => ?_)
  have hm : G.H.length = 0 := by rw [hG]; rfl
  unfold laws_FnExactLongestUp at h
  refine ACode_seq (ACode_region ?_)
  refine AOps_boxI 2 _ _ (.agg (colD p0)) (colD p0) rfl (colD_one _) rfl rfl rfl rfl rfl ?_
  refine AOps_q 4 _ rfl rfl rfl (QOp_assign _ _ rfl rfl) ?_
  refine AOps_nil ?_
  refine ACode_seq (ACode_region ?_)
  refine AOps_q 14 _ rfl rfl rfl (QOp_loadN_pv _ _ _ _ _ _ rfl Try.isAgg37 Try.sizeOf37 rfl (colD_all _) (colD_length _)) ?_
  obtain ⟨r1, hr1, h⟩ := bindO h
  refine AOps_call [] 15 _ _ _ _ _ _ _ _ _ _ rfl rfl rfl rfl rfl rfl rfl Try.call24 rfl (nodupB_sound _ rfl) rfl rfl rfl (laws_toColouring_ac k p0 _ hr1) ?_
  rintro _ _ ⟨rfl, rfl⟩
  refine ⟨(fun _ h => nomatch h), (allc (trivial) (fun _ h => nomatch h)), AOps_as 15 (v' := .d (.agg (colD r1))) (H' := []) rfl rfl ?_⟩
  refine AOps_q 16 _ rfl rfl rfl (QOp_move _ _ rfl rfl) ?_
  obtain ⟨r2, hr2, h⟩ := bindO h
  refine AOps_call [] 17 _ _ _ _ _ _ _ _ _ _ rfl rfl rfl rfl rfl rfl rfl Try.call34 rfl (nodupB_sound _ rfl) rfl rfl rfl (spec_LongestUp_ac k r1 p1 _ hr2) ?_
  rintro _ _ ⟨rfl, rfl⟩
  refine ⟨(fun _ h => nomatch h), (allc (trivial) (allc (trivial) (fun _ h => nomatch h))), AOps_as 17 (v' := .tup [.d (.sl none (intsD r2.1)), iV r2.2]) (H' := []) rfl rfl ?_⟩
  refine AOps_q 13 _ rfl rfl rfl (QOp_move _ _ rfl rfl) ?_
  refine AOps_q 18 _ rfl rfl rfl (QOp_extract _ _ _ _ rfl rfl rfl) ?_
  refine AOps_q 19 _ rfl rfl rfl (QOp_extract _ _ _ _ rfl rfl rfl) ?_
  refine AOps_q 5 _ rfl rfl rfl (QOp_assign _ _ rfl rfl) ?_
  refine AOps_q 6 _ rfl rfl rfl (QOp_assign _ _ rfl rfl) ?_
  refine AOps_nil ?_
  refine ACode_seq (ACode_region ?_)
  refine AOps_q 21 _ rfl rfl rfl (QOp_loadN_pv _ _ _ _ _ _ rfl Try.isAgg37 Try.sizeOf37 rfl (colD_all _) (colD_length _)) ?_
  obtain ⟨r3, hr3, h⟩ := bindO h
  refine AOps_call [] 22 _ _ _ _ _ _ _ _ _ _ rfl rfl rfl rfl rfl rfl rfl Try.call24 rfl (nodupB_sound _ rfl) rfl rfl rfl (laws_toColouring_ac k p0 _ hr3) ?_
  rintro _ _ ⟨rfl, rfl⟩
  refine ⟨(fun _ h => nomatch h), (allc (trivial) (fun _ h => nomatch h)), AOps_as 22 (v' := .d (.agg (colD r3))) (H' := []) rfl rfl ?_⟩
  refine AOps_q 23 _ rfl rfl rfl (QOp_move _ _ rfl rfl) ?_
  obtain ⟨r4, hr4, h⟩ := bindO h
  refine AOps_call [] 24 _ _ _ _ _ _ _ _ _ _ rfl rfl rfl rfl rfl rfl rfl Try.call35 rfl (nodupB_sound _ rfl) rfl rfl rfl (impl_LongestUp_ac k r3 p1 _ hr4) ?_
  revert h
  cases hx6 : r4.1 with
  | none =>
    intro h
    rintro _ _ ⟨rfl, rfl⟩
    refine ⟨(fun _ h => nomatch h), (allc (trivial) (allc (trivial) (fun _ h => nomatch h))), AOps_as 24 (v' := .tup [.d (.sl (some true) []), iV r4.2]) (H' := []) rfl rfl ?_⟩
    refine AOps_q 20 _ rfl rfl rfl (QOp_move _ _ rfl rfl) ?_
    refine AOps_q 25 _ rfl rfl rfl (QOp_extract _ _ _ _ rfl rfl rfl) ?_
    refine AOps_q 26 _ rfl rfl rfl (QOp_extract _ _ _ _ rfl rfl rfl) ?_
    refine AOps_q 7 _ rfl rfl rfl (QOp_assign _ _ rfl rfl) ?_
    refine AOps_q 8 _ rfl rfl rfl (QOp_assign _ _ rfl rfl) ?_
    refine AOps_nil ?_
    obtain ⟨os11, hss11, hks11⟩ := bindO h
    clear h
    refine ACode_seqJ (fun E' H' => ∃ s11 : Unit, os11 = .inl s11 ∧ Weak 71 G E' H' [(1, iV p1), (2, .d (.pv (colD p0) 0)), (5, .d (.sl none (intsD r2.1))), (6, iV r2.2), (7, .d (.sl (some true) []))] []) ?_ ?_
    · have h := hss11
      clear hss11
      obtain ⟨s9, hss9, hks9⟩ := bindO h
      clear h
      refine ACode_seqJ (fun E' H' => Weak 71 G E' H' [(1, iV p1), (2, .d (.pv (colD p0) 0)), (5, .d (.sl none (intsD r2.1))), (6, iV r2.2), (7, .d (.sl (some true) [])), (35, bV s9)] []) ?_ ?_
      · have h := hss9
        clear hss9
        refine (ACode_region ?_)
        refine AOps_q 27 _ rfl rfl rfl (QOp_move _ _ rfl rfl) ?_
        refine AOps_q 28 _ rfl rfl rfl (QOp_move _ _ rfl rfl) ?_
        obtain ⟨r7, hr7, h⟩ := bindO h
        refine AOps_call [] 29 _ _ _ _ _ _ _ _ _ _ rfl rfl rfl rfl rfl rfl rfl Try.call27 rfl (nodupB_sound _ rfl) rfl rfl rfl (laws_eqInt64S_ac k ([]) r2.1 _ hr7) ?_
        rintro _ _ ⟨rfl, rfl⟩
        refine ⟨(fun _ h => nomatch h), (allc (trivial) (fun _ h => nomatch h)), AOps_as 29 (v' := bV r7) (H' := []) rfl rfl ?_⟩
        refine AOps_q 30 _ rfl rfl rfl (QOp_not _ _ _ rfl rfl) ?_
        refine AOps_q 31 _ rfl rfl rfl (QOp_move _ _ rfl rfl) ?_
        refine AOps_case 31 _ rfl (fun hb8 => ?_) (fun hb8 => ?_)
        · have h := iteT hb8 h
          refine AOps_skip 32 rfl rfl rfl ?_
          refine AOps_skip 33 rfl rfl rfl ?_
          refine AOps_skip 34 rfl rfl rfl ?_
          refine AOps_q 35 _ rfl rfl rfl (QOp_pick_t _ _ _ _ rfl rfl rfl) ?_
          refine AOps_nil ?_
          cases h
          exact Weak_keep 0 hm [1, 2, 5, 6, 7, 35] [] _ _ rfl rfl rfl
        · have h := iteF hb8 h
          refine AOps_q 32 _ rfl rfl rfl (QOp_move _ _ rfl rfl) ?_
          refine AOps_q 33 _ rfl rfl rfl (QOp_move _ _ rfl rfl) ?_
          refine AOps_q 34 _ rfl rfl rfl (QOp_neq _ _ _ _ _ _ _ rfl rfl rfl) ?_
          refine AOps_q 35 _ rfl rfl rfl (QOp_pick_f _ _ _ _ rfl rfl rfl) ?_
          refine AOps_nil ?_
          cases h
          exact Weak_keep 0 hm [1, 2, 5, 6, 7, 35] [] _ _ rfl rfl rfl
      intro E' H' hw
      refine ACode_weak hw ?_
      have h := hks9
      refine ACode_cond _ rfl (fun hb10 => ?_) (fun hb10 => ?_)
      · have h := iteT hb10 h
        refine ACode_seq (ACode_region ?_)
        refine AOps_q 4 _ rfl rfl rfl (QOp_assign _ _ rfl rfl) ?_
        refine AOps_nil ?_
        refine ACode_ret ?_
        cases h
        have h := hks11
        cases h
        exact ⟨_, _, fun r a w h => ⟨r, h⟩, _, _, [], _, (.cons (ResV_tmp _ _ rfl) .nil), rfl, rfl, rfl, rfl, rfl⟩
      · have h := iteF hb10 h
        refine ACode_skip ?_
        cases h
        exact ⟨_, rfl, Weak_keep 0 hm [1, 2, 5, 6, 7] [] _ _ rfl rfl rfl⟩
    rintro E' H' ⟨s11, rfl, hw⟩
    refine ACode_weak hw ?_
    have h := hks11
    refine ACode_seq (ACode_region ?_)
    refine AOps_q 9 _ rfl rfl rfl (QOp_assign _ _ rfl rfl) ?_
    refine AOps_nil ?_
    refine ACode_seq (ACode_region ?_)
    refine AOps_q 36 _ rfl rfl rfl (QOp_move _ _ rfl rfl) ?_
    refine AOps_q 37 _ rfl rfl rfl (QOp_move _ _ rfl rfl) ?_
    obtain ⟨r12, hr12, h⟩ := bindO h
    refine AOps_call [] 38 _ _ _ _ _ _ _ _ _ _ rfl rfl rfl rfl rfl rfl rfl Try.call30 rfl (nodupB_sound _ rfl) rfl rfl rfl (laws_markInt64S_d0_ac k ([]) 1 _ hr12) ?_
    rintro _ _ ⟨rfl, rfl⟩
    refine ⟨(fun _ h => nomatch h), (allc (trivial) (fun _ h => nomatch h)), AOps_as 38 (v' := iV r12) (H' := []) rfl rfl ?_⟩
    refine AOps_q 9 _ rfl rfl rfl (QOp_assign _ _ rfl rfl) ?_
    refine AOps_nil ?_
    refine ACode_seq (ACode_region ?_)
    refine AOps_q 10 _ rfl rfl rfl (QOp_assign _ _ rfl rfl) ?_
    refine AOps_nil ?_
    refine ACode_seq (ACode_region ?_)
    refine AOps_q 39 _ rfl rfl rfl (QOp_move _ _ rfl rfl) ?_
    refine AOps_q 40 _ rfl rfl rfl (QOp_move _ _ rfl rfl) ?_
    obtain ⟨r13, hr13, h⟩ := bindO h
    refine AOps_call [] 41 _ _ _ _ _ _ _ _ _ _ rfl rfl rfl rfl rfl rfl rfl Try.call31 rfl (nodupB_sound _ rfl) rfl rfl rfl (laws_heldInt64S_ac k ([]) 1 _ hr13) ?_
    rintro _ _ ⟨rfl, rfl⟩
    refine ⟨(fun _ h => nomatch h), (allc (trivial) (fun _ h => nomatch h)), AOps_as 41 (v' := iV r13) (H' := []) rfl rfl ?_⟩
    refine AOps_q 10 _ rfl rfl rfl (QOp_assign _ _ rfl rfl) ?_
    refine AOps_nil ?_
    refine ACode_seq ?_
    refine ACode_seq (ACode_region ?_)
    refine AOps_q 42 _ rfl rfl rfl (QOp_move _ _ rfl rfl) ?_
    refine AOps_q 43 _ rfl rfl rfl (QOp_lss _ _ _ _ _ _ _ rfl rfl rfl) ?_
    refine AOps_nil ?_
    refine ACode_cond _ rfl (fun hb14 => ?_) (fun hb14 => ?_)
    · have h := iteT hb14 h
      refine ACode_seq (ACode_region ?_)
      refine AOps_q 4 _ rfl rfl rfl (QOp_assign _ _ rfl rfl) ?_
      refine AOps_nil ?_
      refine ACode_ret ?_
      cases h
      exact ⟨_, _, fun r a w h => ⟨r, h⟩, _, _, [], _, (.cons (ResV_tmp _ _ rfl) .nil), rfl, rfl, rfl, rfl, rfl⟩
    · have h := iteF hb14 h
      refine ACode_skip ?_
      refine ACode_seq ?_
      refine ACode_seq (ACode_region ?_)
      refine AOps_q 44 _ rfl rfl rfl (QOp_move _ _ rfl rfl) ?_
      refine AOps_q 45 _ rfl rfl rfl (QOp_move _ _ rfl rfl) ?_
      refine AOps_q 46 _ rfl rfl rfl (QOp_neq _ _ _ _ _ _ _ rfl rfl rfl) ?_
      refine AOps_nil ?_
      refine ACode_cond _ rfl (fun hb15 => ?_) (fun hb15 => ?_)
      · have h := iteT hb15 h
        refine ACode_seq (ACode_region ?_)
        refine AOps_q 4 _ rfl rfl rfl (QOp_assign _ _ rfl rfl) ?_
        refine AOps_nil ?_
        refine ACode_ret ?_
        cases h
        exact ⟨_, _, fun r a w h => ⟨r, h⟩, _, _, [], _, (.cons (ResV_tmp _ _ rfl) .nil), rfl, rfl, rfl, rfl, rfl⟩
      · have h := iteF hb15 h
        refine ACode_skip ?_
        refine ACode_seq (ACode_region ?_)
        refine AOps_q 48 _ rfl rfl rfl (QOp_loadN_pv _ _ _ _ _ _ rfl Try.isAgg37 Try.sizeOf37 rfl (colD_all _) (colD_length _)) ?_
        obtain ⟨r16, hr16, h⟩ := bindO h
        refine AOps_call [] 49 _ _ _ _ _ _ _ _ _ _ rfl rfl rfl rfl rfl rfl rfl Try.call24 rfl (nodupB_sound _ rfl) rfl rfl rfl (laws_toColouring_ac k p0 _ hr16) ?_
        rintro _ _ ⟨rfl, rfl⟩
        refine ⟨(fun _ h => nomatch h), (allc (trivial) (fun _ h => nomatch h)), AOps_as 49 (v' := .d (.agg (colD r16))) (H' := []) rfl rfl ?_⟩
        refine AOps_q 50 _ rfl rfl rfl (QOp_move _ _ rfl rfl) ?_
        obtain ⟨r17, hr17, h⟩ := bindO h
        refine AOps_call [] 51 _ _ _ _ _ _ _ _ _ _ rfl rfl rfl rfl rfl rfl rfl Try.call35 rfl (nodupB_sound _ rfl) rfl rfl rfl (impl_LongestUp_ac k r16 p1 _ hr17) ?_
        revert h
        cases hx19 : r17.1 with
        | none =>
          intro h
          rintro _ _ ⟨rfl, rfl⟩
          refine ⟨(fun _ h => nomatch h), (allc (trivial) (allc (trivial) (fun _ h => nomatch h))), AOps_as 51 (v' := .tup [.d (.sl (some true) []), iV r17.2]) (H' := []) rfl rfl ?_⟩
          refine AOps_q 47 _ rfl rfl rfl (QOp_move _ _ rfl rfl) ?_
          refine AOps_q 52 _ rfl rfl rfl (QOp_extract _ _ _ _ rfl rfl rfl) ?_
          refine AOps_q 53 _ rfl rfl rfl (QOp_extract _ _ _ _ rfl rfl rfl) ?_
          refine AOps_q 11 _ rfl rfl rfl (QOp_assign _ _ rfl rfl) ?_
          refine AOps_q 12 _ rfl rfl rfl (QOp_assign _ _ rfl rfl) ?_
          refine AOps_nil ?_
          obtain ⟨os24, hss24, hks24⟩ := bindO h
          clear h
          refine ACode_seqJ (fun E' H' => ∃ s24 : Unit, os24 = .inl s24 ∧ Weak 71 G E' H' [(7, .d (.sl (some true) [])), (9, iV r12)] []) ?_ ?_
          · have h := hss24
            clear hss24
            obtain ⟨s22, hss22, hks22⟩ := bindO h
            clear h
            refine ACode_seqJ (fun E' H' => Weak 71 G E' H' [(7, .d (.sl (some true) [])), (9, iV r12), (62, bV s22)] []) ?_ ?_
            · have h := hss22
              clear hss22
              refine (ACode_region ?_)
              refine AOps_q 54 _ rfl rfl rfl (QOp_move _ _ rfl rfl) ?_
              refine AOps_q 55 _ rfl rfl rfl (QOp_move _ _ rfl rfl) ?_
              obtain ⟨r20, hr20, h⟩ := bindO h
              refine AOps_call [] 56 _ _ _ _ _ _ _ _ _ _ rfl rfl rfl rfl rfl rfl rfl Try.call27 rfl (nodupB_sound _ rfl) rfl rfl rfl (laws_eqInt64S_ac k ([]) r2.1 _ hr20) ?_
              rintro _ _ ⟨rfl, rfl⟩
              refine ⟨(fun _ h => nomatch h), (allc (trivial) (fun _ h => nomatch h)), AOps_as 56 (v' := bV r20) (H' := []) rfl rfl ?_⟩
              refine AOps_q 57 _ rfl rfl rfl (QOp_not _ _ _ rfl rfl) ?_
              refine AOps_q 58 _ rfl rfl rfl (QOp_move _ _ rfl rfl) ?_
              refine AOps_case 58 _ rfl (fun hb21 => ?_) (fun hb21 => ?_)
              · have h := iteT hb21 h
                refine AOps_skip 59 rfl rfl rfl ?_
                refine AOps_skip 60 rfl rfl rfl ?_
                refine AOps_skip 61 rfl rfl rfl ?_
                refine AOps_q 62 _ rfl rfl rfl (QOp_pick_t _ _ _ _ rfl rfl rfl) ?_
                refine AOps_nil ?_
                cases h
                exact Weak_keep 0 hm [7, 9, 62] [] _ _ rfl rfl rfl
              · have h := iteF hb21 h
                refine AOps_q 59 _ rfl rfl rfl (QOp_move _ _ rfl rfl) ?_
                refine AOps_q 60 _ rfl rfl rfl (QOp_move _ _ rfl rfl) ?_
                refine AOps_q 61 _ rfl rfl rfl (QOp_neq _ _ _ _ _ _ _ rfl rfl rfl) ?_
                refine AOps_q 62 _ rfl rfl rfl (QOp_pick_f _ _ _ _ rfl rfl rfl) ?_
                refine AOps_nil ?_
                cases h
                exact Weak_keep 0 hm [7, 9, 62] [] _ _ rfl rfl rfl
            intro E' H' hw
            refine ACode_weak hw ?_
            have h := hks22
            refine ACode_cond _ rfl (fun hb23 => ?_) (fun hb23 => ?_)
            · have h := iteT hb23 h
              refine ACode_seq (ACode_region ?_)
              refine AOps_q 4 _ rfl rfl rfl (QOp_assign _ _ rfl rfl) ?_
              refine AOps_nil ?_
              refine ACode_ret ?_
              cases h
              have h := hks24
              cases h
              exact ⟨_, _, fun r a w h => ⟨r, h⟩, _, _, [], _, (.cons (ResV_tmp _ _ rfl) .nil), rfl, rfl, rfl, rfl, rfl⟩
            · have h := iteF hb23 h
              refine ACode_skip ?_
              cases h
              exact ⟨_, rfl, Weak_keep 0 hm [7, 9] [] _ _ rfl rfl rfl⟩
          rintro E' H' ⟨s24, rfl, hw⟩
          refine ACode_weak hw ?_
          have h := hks24
          refine ACode_seq (ACode_region ?_)
          refine AOps_q 10 _ rfl rfl rfl (QOp_assign _ _ rfl rfl) ?_
          refine AOps_nil ?_
          refine ACode_seq (ACode_region ?_)
          refine AOps_q 63 _ rfl rfl rfl (QOp_move _ _ rfl rfl) ?_
          refine AOps_q 64 _ rfl rfl rfl (QOp_move _ _ rfl rfl) ?_
          obtain ⟨r25, hr25, h⟩ := bindO h
          refine AOps_call [] 65 _ _ _ _ _ _ _ _ _ _ rfl rfl rfl rfl rfl rfl rfl Try.call31 rfl (nodupB_sound _ rfl) rfl rfl rfl (laws_heldInt64S_ac k ([]) 1 _ hr25) ?_
          rintro _ _ ⟨rfl, rfl⟩
          refine ⟨(fun _ h => nomatch h), (allc (trivial) (fun _ h => nomatch h)), AOps_as 65 (v' := iV r25) (H' := []) rfl rfl ?_⟩
          refine AOps_q 10 _ rfl rfl rfl (QOp_assign _ _ rfl rfl) ?_
          refine AOps_nil ?_
          refine ACode_seq ?_
          refine ACode_seq (ACode_region ?_)
          refine AOps_q 66 _ rfl rfl rfl (QOp_move _ _ rfl rfl) ?_
          refine AOps_q 67 _ rfl rfl rfl (QOp_lss _ _ _ _ _ _ _ rfl rfl rfl) ?_
          refine AOps_nil ?_
          refine ACode_cond _ rfl (fun hb26 => ?_) (fun hb26 => ?_)
          · have h := iteT hb26 h
            refine ACode_seq (ACode_region ?_)
            refine AOps_q 4 _ rfl rfl rfl (QOp_assign _ _ rfl rfl) ?_
            refine AOps_nil ?_
            refine ACode_ret ?_
            cases h
            exact ⟨_, _, fun r a w h => ⟨r, h⟩, _, _, [], _, (.cons (ResV_tmp _ _ rfl) .nil), rfl, rfl, rfl, rfl, rfl⟩
          · have h := iteF hb26 h
            refine ACode_skip ?_
            refine ACode_seq ?_
            refine ACode_seq (ACode_region ?_)
            refine AOps_q 68 _ rfl rfl rfl (QOp_move _ _ rfl rfl) ?_
            refine AOps_q 69 _ rfl rfl rfl (QOp_move _ _ rfl rfl) ?_
            refine AOps_q 70 _ rfl rfl rfl (QOp_neq _ _ _ _ _ _ _ rfl rfl rfl) ?_
            refine AOps_nil ?_
            refine ACode_cond _ rfl (fun hb27 => ?_) (fun hb27 => ?_)
            · have h := iteT hb27 h
              refine ACode_seq (ACode_region ?_)
              refine AOps_q 4 _ rfl rfl rfl (QOp_assign _ _ rfl rfl) ?_
              refine AOps_nil ?_
              refine ACode_ret ?_
              cases h
              exact ⟨_, _, fun r a w h => ⟨r, h⟩, _, _, [], _, (.cons (ResV_tmp _ _ rfl) .nil), rfl, rfl, rfl, rfl, rfl⟩
            · have h := iteF hb27 h
              refine ACode_skip ?_
              refine ACode_seq (ACode_region ?_)
              refine AOps_q 4 _ rfl rfl rfl (QOp_assign _ _ rfl rfl) ?_
              refine AOps_nil ?_
              refine ACode_ret ?_
              cases h
              exact ⟨_, _, fun r a w h => ⟨r, h⟩, _, _, [], _, (.cons (ResV_tmp _ _ rfl) .nil), rfl, rfl, rfl, rfl, rfl⟩
        | some l18 =>
          intro h
          rintro _ _ ⟨rfl, rfl⟩
          refine ⟨(allc (fun _ _ => trivial) (fun _ h => nomatch h)), (allc (trivial) (allc (trivial) (fun _ h => nomatch h))), AOps_as 51 (v' := .tup [.vec 0 0, iV r17.2]) (H' := [.vec 0 (intsD l18)]) rfl rfl ?_⟩
          refine AOps_q 47 _ rfl rfl rfl (QOp_move _ _ rfl rfl) ?_
          refine AOps_q 52 _ rfl rfl rfl (QOp_extract _ _ _ _ rfl rfl rfl) ?_
          refine AOps_q 53 _ rfl rfl rfl (QOp_extract _ _ _ _ rfl rfl rfl) ?_
          refine AOps_q 11 _ rfl rfl rfl (QOp_assign _ _ rfl rfl) ?_
          refine AOps_q 12 _ rfl rfl rfl (QOp_assign _ _ rfl rfl) ?_
          refine AOps_nil ?_
          obtain ⟨os32, hss32, hks32⟩ := bindO h
          clear h
          refine ACode_seqJ (fun E' H' => ∃ s32 : Unit, os32 = .inl s32 ∧ Weak 71 G E' H' [(7, .d (.sl (some true) [])), (9, iV r12)] []) ?_ ?_
          · have h := hss32
            clear hss32
            obtain ⟨s30, hss30, hks30⟩ := bindO h
            clear h
            refine ACode_seqJ (fun E' H' => Weak 71 G E' H' [(7, .d (.sl (some true) [])), (9, iV r12), (62, bV s30)] []) ?_ ?_
            · have h := hss30
              clear hss30
              refine (ACode_region ?_)
              refine AOps_q 54 _ rfl rfl rfl (QOp_move _ _ rfl rfl) ?_
              refine AOps_q 55 _ rfl rfl rfl (QOp_move _ _ rfl rfl) ?_
              obtain ⟨r28, hr28, h⟩ := bindO h
              refine AOps_callL [] 56 _ _ _ _ _ _ _ _ _ _ rfl rfl rfl rfl rfl rfl rfl Try.call27 rfl (nodupB_sound _ rfl) rfl rfl rfl (laws_eqInt64S_ac k l18 r2.1 _ hr28) ?_
              rintro _ _ ⟨rfl, rfl⟩
              refine ⟨(fun _ h => nomatch h), (allc (flat_s _) (fun _ h => nomatch h)), AOps_as 56 (v' := bV r28) (H' := [.vec 0 (intsD l18)]) rfl rfl ?_⟩
              refine AOps_q 57 _ rfl rfl rfl (QOp_not _ _ _ rfl rfl) ?_
              refine AOps_q 58 _ rfl rfl rfl (QOp_move _ _ rfl rfl) ?_
              refine AOps_case 58 _ rfl (fun hb29 => ?_) (fun hb29 => ?_)
              · have h := iteT hb29 h
                refine AOps_skip 59 rfl rfl rfl ?_
                refine AOps_skip 60 rfl rfl rfl ?_
                refine AOps_skip 61 rfl rfl rfl ?_
                refine AOps_q 62 _ rfl rfl rfl (QOp_pick_t _ _ _ _ rfl rfl rfl) ?_
                refine AOps_nil ?_
                cases h
                exact Weak_keep 0 hm [7, 9, 62] [] _ _ rfl rfl rfl
              · have h := iteF hb29 h
                refine AOps_q 59 _ rfl rfl rfl (QOp_move _ _ rfl rfl) ?_
                refine AOps_q 60 _ rfl rfl rfl (QOp_move _ _ rfl rfl) ?_
                refine AOps_q 61 _ rfl rfl rfl (QOp_neq _ _ _ _ _ _ _ rfl rfl rfl) ?_
                refine AOps_q 62 _ rfl rfl rfl (QOp_pick_f _ _ _ _ rfl rfl rfl) ?_
                refine AOps_nil ?_
                cases h
                exact Weak_keep 0 hm [7, 9, 62] [] _ _ rfl rfl rfl
            intro E' H' hw
            refine ACode_weak hw ?_
            have h := hks30
            refine ACode_cond _ rfl (fun hb31 => ?_) (fun hb31 => ?_)
            · have h := iteT hb31 h
              refine ACode_seq (ACode_region ?_)
              refine AOps_q 4 _ rfl rfl rfl (QOp_assign _ _ rfl rfl) ?_
              refine AOps_nil ?_
              refine ACode_ret ?_
              cases h
              have h := hks32
              cases h
              exact ⟨_, _, fun r a w h => ⟨r, h⟩, _, _, [], _, (.cons (ResV_tmp _ _ rfl) .nil), rfl, rfl, rfl, rfl, rfl⟩
            · have h := iteF hb31 h
              refine ACode_skip ?_
              cases h
              exact ⟨_, rfl, Weak_keep 0 hm [7, 9] [] _ _ rfl rfl rfl⟩
          rintro E' H' ⟨s32, rfl, hw⟩
          refine ACode_weak hw ?_
          have h := hks32
          refine ACode_seq (ACode_region ?_)
          refine AOps_q 10 _ rfl rfl rfl (QOp_assign _ _ rfl rfl) ?_
          refine AOps_nil ?_
          refine ACode_seq (ACode_region ?_)
          refine AOps_q 63 _ rfl rfl rfl (QOp_move _ _ rfl rfl) ?_
          refine AOps_q 64 _ rfl rfl rfl (QOp_move _ _ rfl rfl) ?_
          obtain ⟨r33, hr33, h⟩ := bindO h
          refine AOps_call [] 65 _ _ _ _ _ _ _ _ _ _ rfl rfl rfl rfl rfl rfl rfl Try.call31 rfl (nodupB_sound _ rfl) rfl rfl rfl (laws_heldInt64S_ac k ([]) 1 _ hr33) ?_
          rintro _ _ ⟨rfl, rfl⟩
          refine ⟨(fun _ h => nomatch h), (allc (trivial) (fun _ h => nomatch h)), AOps_as 65 (v' := iV r33) (H' := []) rfl rfl ?_⟩
          refine AOps_q 10 _ rfl rfl rfl (QOp_assign _ _ rfl rfl) ?_
          refine AOps_nil ?_
          refine ACode_seq ?_
          refine ACode_seq (ACode_region ?_)
          refine AOps_q 66 _ rfl rfl rfl (QOp_move _ _ rfl rfl) ?_
          refine AOps_q 67 _ rfl rfl rfl (QOp_lss _ _ _ _ _ _ _ rfl rfl rfl) ?_
          refine AOps_nil ?_
          refine ACode_cond _ rfl (fun hb34 => ?_) (fun hb34 => ?_)
          · have h := iteT hb34 h
            refine ACode_seq (ACode_region ?_)
            refine AOps_q 4 _ rfl rfl rfl (QOp_assign _ _ rfl rfl) ?_
            refine AOps_nil ?_
            refine ACode_ret ?_
            cases h
            exact ⟨_, _, fun r a w h => ⟨r, h⟩, _, _, [], _, (.cons (ResV_tmp _ _ rfl) .nil), rfl, rfl, rfl, rfl, rfl⟩
          · have h := iteF hb34 h
            refine ACode_skip ?_
            refine ACode_seq ?_
            refine ACode_seq (ACode_region ?_)
            refine AOps_q 68 _ rfl rfl rfl (QOp_move _ _ rfl rfl) ?_
            refine AOps_q 69 _ rfl rfl rfl (QOp_move _ _ rfl rfl) ?_
            refine AOps_q 70 _ rfl rfl rfl (QOp_neq _ _ _ _ _ _ _ rfl rfl rfl) ?_
            refine AOps_nil ?_
            refine ACode_cond _ rfl (fun hb35 => ?_) (fun hb35 => ?_)
            · have h := iteT hb35 h
              refine ACode_seq (ACode_region ?_)
              refine AOps_q 4 _ rfl rfl rfl (QOp_assign _ _ rfl rfl) ?_
              refine AOps_nil ?_
              refine ACode_ret ?_
              cases h
              exact ⟨_, _, fun r a w h => ⟨r, h⟩, _, _, [], _, (.cons (ResV_tmp _ _ rfl) .nil), rfl, rfl, rfl, rfl, rfl⟩
            · have h := iteF hb35 h
              refine ACode_skip ?_
              refine ACode_seq (ACode_region ?_)
              refine AOps_q 4 _ rfl rfl rfl (QOp_assign _ _ rfl rfl) ?_
              refine AOps_nil ?_
              refine ACode_ret ?_
              cases h
              exact ⟨_, _, fun r a w h => ⟨r, h⟩, _, _, [], _, (.cons (ResV_tmp _ _ rfl) .nil), rfl, rfl, rfl, rfl, rfl⟩
  | some l5 =>
    intro h
    rintro _ _ ⟨rfl, rfl⟩
    refine ⟨(allc (fun _ _ => trivial) (fun _ h => nomatch h)), (allc (trivial) (allc (trivial) (fun _ h => nomatch h))), AOps_as 24 (v' := .tup [.vec 0 0, iV r4.2]) (H' := [.vec 0 (intsD l5)]) rfl rfl ?_⟩
    refine AOps_q 20 _ rfl rfl rfl (QOp_move _ _ rfl rfl) ?_
    refine AOps_q 25 _ rfl rfl rfl (QOp_extract _ _ _ _ rfl rfl rfl) ?_
    refine AOps_q 26 _ rfl rfl rfl (QOp_extract _ _ _ _ rfl rfl rfl) ?_
    refine AOps_q 7 _ rfl rfl rfl (QOp_assign _ _ rfl rfl) ?_
    refine AOps_q 8 _ rfl rfl rfl (QOp_assign _ _ rfl rfl) ?_
    refine AOps_nil ?_
    obtain ⟨os40, hss40, hks40⟩ := bindO h
    clear h
    refine ACode_seqJ (fun E' H' => ∃ s40 : Unit, os40 = .inl s40 ∧ Weak 71 G E' H' [(1, iV p1), (2, .d (.pv (colD p0) 0)), (5, .d (.sl none (intsD r2.1))), (6, iV r2.2), (7, .vec 0 0)] [.vec 0 (intsD l5)]) ?_ ?_
    · have h := hss40
      clear hss40
      obtain ⟨s38, hss38, hks38⟩ := bindO h
      clear h
      refine ACode_seqJ (fun E' H' => Weak 71 G E' H' [(1, iV p1), (2, .d (.pv (colD p0) 0)), (5, .d (.sl none (intsD r2.1))), (6, iV r2.2), (7, .vec 0 0), (35, bV s38)] [.vec 0 (intsD l5)]) ?_ ?_
      · have h := hss38
        clear hss38
        refine (ACode_region ?_)
        refine AOps_q 27 _ rfl rfl rfl (QOp_move _ _ rfl rfl) ?_
        refine AOps_q 28 _ rfl rfl rfl (QOp_move _ _ rfl rfl) ?_
        obtain ⟨r36, hr36, h⟩ := bindO h
        refine AOps_callL [] 29 _ _ _ _ _ _ _ _ _ _ rfl rfl rfl rfl rfl rfl rfl Try.call27 rfl (nodupB_sound _ rfl) rfl rfl rfl (laws_eqInt64S_ac k l5 r2.1 _ hr36) ?_
        rintro _ _ ⟨rfl, rfl⟩
        refine ⟨(fun _ h => nomatch h), (allc (flat_s _) (fun _ h => nomatch h)), AOps_as 29 (v' := bV r36) (H' := [.vec 0 (intsD l5)]) rfl rfl ?_⟩
        refine AOps_q 30 _ rfl rfl rfl (QOp_not _ _ _ rfl rfl) ?_
        refine AOps_q 31 _ rfl rfl rfl (QOp_move _ _ rfl rfl) ?_
        refine AOps_case 31 _ rfl (fun hb37 => ?_) (fun hb37 => ?_)
        · have h := iteT hb37 h
          refine AOps_skip 32 rfl rfl rfl ?_
          refine AOps_skip 33 rfl rfl rfl ?_
          refine AOps_skip 34 rfl rfl rfl ?_
          refine AOps_q 35 _ rfl rfl rfl (QOp_pick_t _ _ _ _ rfl rfl rfl) ?_
          refine AOps_nil ?_
          cases h
          exact Weak_keep 0 hm [1, 2, 5, 6, 7, 35] [0] _ _ rfl rfl rfl
        · have h := iteF hb37 h
          refine AOps_q 32 _ rfl rfl rfl (QOp_move _ _ rfl rfl) ?_
          refine AOps_q 33 _ rfl rfl rfl (QOp_move _ _ rfl rfl) ?_
          refine AOps_q 34 _ rfl rfl rfl (QOp_neq _ _ _ _ _ _ _ rfl rfl rfl) ?_
          refine AOps_q 35 _ rfl rfl rfl (QOp_pick_f _ _ _ _ rfl rfl rfl) ?_
          refine AOps_nil ?_
          cases h
          exact Weak_keep 0 hm [1, 2, 5, 6, 7, 35] [0] _ _ rfl rfl rfl
      intro E' H' hw
      refine ACode_weak hw ?_
      have h := hks38
      refine ACode_cond _ rfl (fun hb39 => ?_) (fun hb39 => ?_)
      · have h := iteT hb39 h
        refine ACode_seq (ACode_region ?_)
        refine AOps_q 4 _ rfl rfl rfl (QOp_assign _ _ rfl rfl) ?_
        refine AOps_nil ?_
        refine ACode_ret ?_
        cases h
        have h := hks40
        cases h
        exact ⟨_, _, fun r a w h => ⟨r, h⟩, _, _, [], _, (.cons (ResV_tmp _ _ rfl) .nil), rfl, rfl, rfl, rfl, rfl⟩
      · have h := iteF hb39 h
        refine ACode_skip ?_
        cases h
        exact ⟨_, rfl, Weak_keep 0 hm [1, 2, 5, 6, 7] [0] _ _ rfl rfl rfl⟩
    rintro E' H' ⟨s40, rfl, hw⟩
    refine ACode_weak hw ?_
    have h := hks40
    refine ACode_seq (ACode_region ?_)
    refine AOps_q 9 _ rfl rfl rfl (QOp_assign _ _ rfl rfl) ?_
    refine AOps_nil ?_
    refine ACode_seq (ACode_region ?_)
    refine AOps_q 36 _ rfl rfl rfl (QOp_move _ _ rfl rfl) ?_
    refine AOps_q 37 _ rfl rfl rfl (QOp_move _ _ rfl rfl) ?_
    obtain ⟨r41, hr41, h⟩ := bindO h
    refine AOps_call [0] 38 _ _ _ _ _ _ _ _ _ _ rfl rfl rfl rfl rfl rfl rfl Try.call30 rfl (nodupB_sound _ rfl) rfl rfl rfl (laws_markInt64S_ac k l5 1 _ hr41) ?_
    rintro _ _ ⟨rfl, rfl⟩
    refine ⟨(allc (fun _ _ => trivial) (fun _ h => nomatch h)), (allc (trivial) (fun _ h => nomatch h)), AOps_as 38 (v' := iV r41.1) (H' := [.vec 0 (intsD r41.2)]) rfl rfl ?_⟩
    refine AOps_q 9 _ rfl rfl rfl (QOp_assign _ _ rfl rfl) ?_
    refine AOps_nil ?_
    refine ACode_seq (ACode_region ?_)
    refine AOps_q 10 _ rfl rfl rfl (QOp_assign _ _ rfl rfl) ?_
    refine AOps_nil ?_
    refine ACode_seq (ACode_region ?_)
    refine AOps_q 39 _ rfl rfl rfl (QOp_move _ _ rfl rfl) ?_
    refine AOps_q 40 _ rfl rfl rfl (QOp_move _ _ rfl rfl) ?_
    obtain ⟨r42, hr42, h⟩ := bindO h
    refine AOps_callL [] 41 _ _ _ _ _ _ _ _ _ _ rfl rfl rfl rfl rfl rfl rfl Try.call31 rfl (nodupB_sound _ rfl) rfl rfl rfl (laws_heldInt64S_ac k r41.2 1 _ hr42) ?_
    rintro _ _ ⟨rfl, rfl⟩
    refine ⟨(fun _ h => nomatch h), (allc (flat_s _) (fun _ h => nomatch h)), AOps_as 41 (v' := iV r42) (H' := [.vec 0 (intsD r41.2)]) rfl rfl ?_⟩
    refine AOps_q 10 _ rfl rfl rfl (QOp_assign _ _ rfl rfl) ?_
    refine AOps_nil ?_
    refine ACode_seq ?_
    refine ACode_seq (ACode_region ?_)
    refine AOps_q 42 _ rfl rfl rfl (QOp_move _ _ rfl rfl) ?_
    refine AOps_q 43 _ rfl rfl rfl (QOp_lss _ _ _ _ _ _ _ rfl rfl rfl) ?_
    refine AOps_nil ?_
    refine ACode_cond _ rfl (fun hb43 => ?_) (fun hb43 => ?_)
    · have h := iteT hb43 h
      refine ACode_seq (ACode_region ?_)
      refine AOps_q 4 _ rfl rfl rfl (QOp_assign _ _ rfl rfl) ?_
      refine AOps_nil ?_
      refine ACode_ret ?_
      cases h
      exact ⟨_, _, fun r a w h => ⟨r, h⟩, _, _, [], _, (.cons (ResV_tmp _ _ rfl) .nil), rfl, rfl, rfl, rfl, rfl⟩
    · have h := iteF hb43 h
      refine ACode_skip ?_
      refine ACode_seq ?_
      refine ACode_seq (ACode_region ?_)
      refine AOps_q 44 _ rfl rfl rfl (QOp_move _ _ rfl rfl) ?_
      refine AOps_q 45 _ rfl rfl rfl (QOp_move _ _ rfl rfl) ?_
      refine AOps_q 46 _ rfl rfl rfl (QOp_neq _ _ _ _ _ _ _ rfl rfl rfl) ?_
      refine AOps_nil ?_
      refine ACode_cond _ rfl (fun hb44 => ?_) (fun hb44 => ?_)
      · have h := iteT hb44 h
        refine ACode_seq (ACode_region ?_)
        refine AOps_q 4 _ rfl rfl rfl (QOp_assign _ _ rfl rfl) ?_
        refine AOps_nil ?_
        refine ACode_ret ?_
        cases h
        exact ⟨_, _, fun r a w h => ⟨r, h⟩, _, _, [], _, (.cons (ResV_tmp _ _ rfl) .nil), rfl, rfl, rfl, rfl, rfl⟩
      · have h := iteF hb44 h
        refine ACode_skip ?_
        refine ACode_seq (ACode_region ?_)
        refine AOps_q 48 _ rfl rfl rfl (QOp_loadN_pv _ _ _ _ _ _ rfl Try.isAgg37 Try.sizeOf37 rfl (colD_all _) (colD_length _)) ?_
        obtain ⟨r45, hr45, h⟩ := bindO h
        refine AOps_call [] 49 _ _ _ _ _ _ _ _ _ _ rfl rfl rfl rfl rfl rfl rfl Try.call24 rfl (nodupB_sound _ rfl) rfl rfl rfl (laws_toColouring_ac k p0 _ hr45) ?_
        rintro _ _ ⟨rfl, rfl⟩
        refine ⟨(fun _ h => nomatch h), (allc (trivial) (fun _ h => nomatch h)), AOps_as 49 (v' := .d (.agg (colD r45))) (H' := [.vec 0 (intsD r41.2)]) rfl rfl ?_⟩
        refine AOps_q 50 _ rfl rfl rfl (QOp_move _ _ rfl rfl) ?_
        obtain ⟨r46, hr46, h⟩ := bindO h
        refine AOps_call [] 51 _ _ _ _ _ _ _ _ _ _ rfl rfl rfl rfl rfl rfl rfl Try.call35 rfl (nodupB_sound _ rfl) rfl rfl rfl (impl_LongestUp_ac k r45 p1 _ hr46) ?_
        revert h
        cases hx48 : r46.1 with
        | none =>
          intro h
          rintro _ _ ⟨rfl, rfl⟩
          refine ⟨(fun _ h => nomatch h), (allc (trivial) (allc (trivial) (fun _ h => nomatch h))), AOps_as 51 (v' := .tup [.d (.sl (some true) []), iV r46.2]) (H' := [.vec 0 (intsD r41.2)]) rfl rfl ?_⟩
          refine AOps_q 47 _ rfl rfl rfl (QOp_move _ _ rfl rfl) ?_
          refine AOps_q 52 _ rfl rfl rfl (QOp_extract _ _ _ _ rfl rfl rfl) ?_
          refine AOps_q 53 _ rfl rfl rfl (QOp_extract _ _ _ _ rfl rfl rfl) ?_
          refine AOps_q 11 _ rfl rfl rfl (QOp_assign _ _ rfl rfl) ?_
          refine AOps_q 12 _ rfl rfl rfl (QOp_assign _ _ rfl rfl) ?_
          refine AOps_nil ?_
          obtain ⟨os53, hss53, hks53⟩ := bindO h
          clear h
          refine ACode_seqJ (fun E' H' => ∃ s53 : Unit, os53 = .inl s53 ∧ Weak 71 G E' H' [(7, .vec 0 0), (9, iV r41.1)] [.vec 0 (intsD r41.2)]) ?_ ?_
          · have h := hss53
            clear hss53
            obtain ⟨s51, hss51, hks51⟩ := bindO h
            clear h
            refine ACode_seqJ (fun E' H' => Weak 71 G E' H' [(7, .vec 0 0), (9, iV r41.1), (62, bV s51)] [.vec 0 (intsD r41.2)]) ?_ ?_
            · have h := hss51
              clear hss51
              refine (ACode_region ?_)
              refine AOps_q 54 _ rfl rfl rfl (QOp_move _ _ rfl rfl) ?_
              refine AOps_q 55 _ rfl rfl rfl (QOp_move _ _ rfl rfl) ?_
              obtain ⟨r49, hr49, h⟩ := bindO h
              refine AOps_call [] 56 _ _ _ _ _ _ _ _ _ _ rfl rfl rfl rfl rfl rfl rfl Try.call27 rfl (nodupB_sound _ rfl) rfl rfl rfl (laws_eqInt64S_ac k ([]) r2.1 _ hr49) ?_
              rintro _ _ ⟨rfl, rfl⟩
              refine ⟨(fun _ h => nomatch h), (allc (trivial) (fun _ h => nomatch h)), AOps_as 56 (v' := bV r49) (H' := [.vec 0 (intsD r41.2)]) rfl rfl ?_⟩
              refine AOps_q 57 _ rfl rfl rfl (QOp_not _ _ _ rfl rfl) ?_
              refine AOps_q 58 _ rfl rfl rfl (QOp_move _ _ rfl rfl) ?_
              refine AOps_case 58 _ rfl (fun hb50 => ?_) (fun hb50 => ?_)
              · have h := iteT hb50 h
                refine AOps_skip 59 rfl rfl rfl ?_
                refine AOps_skip 60 rfl rfl rfl ?_
                refine AOps_skip 61 rfl rfl rfl ?_
                refine AOps_q 62 _ rfl rfl rfl (QOp_pick_t _ _ _ _ rfl rfl rfl) ?_
                refine AOps_nil ?_
                cases h
                exact Weak_keep 0 hm [7, 9, 62] [0] _ _ rfl rfl rfl
              · have h := iteF hb50 h
                refine AOps_q 59 _ rfl rfl rfl (QOp_move _ _ rfl rfl) ?_
                refine AOps_q 60 _ rfl rfl rfl (QOp_move _ _ rfl rfl) ?_
                refine AOps_q 61 _ rfl rfl rfl (QOp_neq _ _ _ _ _ _ _ rfl rfl rfl) ?_
                refine AOps_q 62 _ rfl rfl rfl (QOp_pick_f _ _ _ _ rfl rfl rfl) ?_
                refine AOps_nil ?_
                cases h
                exact Weak_keep 0 hm [7, 9, 62] [0] _ _ rfl rfl rfl
            intro E' H' hw
            refine ACode_weak hw ?_
            have h := hks51
            refine ACode_cond _ rfl (fun hb52 => ?_) (fun hb52 => ?_)
            · have h := iteT hb52 h
              refine ACode_seq (ACode_region ?_)
              refine AOps_q 4 _ rfl rfl rfl (QOp_assign _ _ rfl rfl) ?_
              refine AOps_nil ?_
              refine ACode_ret ?_
              cases h
              have h := hks53
              cases h
              exact ⟨_, _, fun r a w h => ⟨r, h⟩, _, _, [], _, (.cons (ResV_tmp _ _ rfl) .nil), rfl, rfl, rfl, rfl, rfl⟩
            · have h := iteF hb52 h
              refine ACode_skip ?_
              cases h
              exact ⟨_, rfl, Weak_keep 0 hm [7, 9] [0] _ _ rfl rfl rfl⟩
          rintro E' H' ⟨s53, rfl, hw⟩
          refine ACode_weak hw ?_
          have h := hks53
          refine ACode_seq (ACode_region ?_)
          refine AOps_q 10 _ rfl rfl rfl (QOp_assign _ _ rfl rfl) ?_
          refine AOps_nil ?_
          refine ACode_seq (ACode_region ?_)
          refine AOps_q 63 _ rfl rfl rfl (QOp_move _ _ rfl rfl) ?_
          refine AOps_q 64 _ rfl rfl rfl (QOp_move _ _ rfl rfl) ?_
          obtain ⟨r54, hr54, h⟩ := bindO h
          refine AOps_callL [] 65 _ _ _ _ _ _ _ _ _ _ rfl rfl rfl rfl rfl rfl rfl Try.call31 rfl (nodupB_sound _ rfl) rfl rfl rfl (laws_heldInt64S_ac k r41.2 1 _ hr54) ?_
          rintro _ _ ⟨rfl, rfl⟩
          refine ⟨(fun _ h => nomatch h), (allc (flat_s _) (fun _ h => nomatch h)), AOps_as 65 (v' := iV r54) (H' := [.vec 0 (intsD r41.2)]) rfl rfl ?_⟩
          refine AOps_q 10 _ rfl rfl rfl (QOp_assign _ _ rfl rfl) ?_
          refine AOps_nil ?_
          refine ACode_seq ?_
          refine ACode_seq (ACode_region ?_)
          refine AOps_q 66 _ rfl rfl rfl (QOp_move _ _ rfl rfl) ?_
          refine AOps_q 67 _ rfl rfl rfl (QOp_lss _ _ _ _ _ _ _ rfl rfl rfl) ?_
          refine AOps_nil ?_
          refine ACode_cond _ rfl (fun hb55 => ?_) (fun hb55 => ?_)
          · have h := iteT hb55 h
            refine ACode_seq (ACode_region ?_)
            refine AOps_q 4 _ rfl rfl rfl (QOp_assign _ _ rfl rfl) ?_
            refine AOps_nil ?_
            refine ACode_ret ?_
            cases h
            exact ⟨_, _, fun r a w h => ⟨r, h⟩, _, _, [], _, (.cons (ResV_tmp _ _ rfl) .nil), rfl, rfl, rfl, rfl, rfl⟩
          · have h := iteF hb55 h
            refine ACode_skip ?_
            refine ACode_seq ?_
            refine ACode_seq (ACode_region ?_)
            refine AOps_q 68 _ rfl rfl rfl (QOp_move _ _ rfl rfl) ?_
            refine AOps_q 69 _ rfl rfl rfl (QOp_move _ _ rfl rfl) ?_
            refine AOps_q 70 _ rfl rfl rfl (QOp_neq _ _ _ _ _ _ _ rfl rfl rfl) ?_
            refine AOps_nil ?_
            refine ACode_cond _ rfl (fun hb56 => ?_) (fun hb56 => ?_)
            · have h := iteT hb56 h
              refine ACode_seq (ACode_region ?_)
              refine AOps_q 4 _ rfl rfl rfl (QOp_assign _ _ rfl rfl) ?_
              refine AOps_nil ?_
              refine ACode_ret ?_
              cases h
              exact ⟨_, _, fun r a w h => ⟨r, h⟩, _, _, [], _, (.cons (ResV_tmp _ _ rfl) .nil), rfl, rfl, rfl, rfl, rfl⟩
            · have h := iteF hb56 h
              refine ACode_skip ?_
              refine ACode_seq (ACode_region ?_)
              refine AOps_q 4 _ rfl rfl rfl (QOp_assign _ _ rfl rfl) ?_
              refine AOps_nil ?_
              refine ACode_ret ?_
              cases h
              exact ⟨_, _, fun r a w h => ⟨r, h⟩, _, _, [], _, (.cons (ResV_tmp _ _ rfl) .nil), rfl, rfl, rfl, rfl, rfl⟩
        | some l47 =>
          intro h
          rintro _ _ ⟨rfl, rfl⟩
          refine ⟨(allc (fun _ _ => trivial) (fun _ h => nomatch h)), (allc (trivial) (allc (trivial) (fun _ h => nomatch h))), AOps_as 51 (v' := .tup [.vec 1 0, iV r46.2]) (H' := [.vec 0 (intsD r41.2), .vec 0 (intsD l47)]) rfl rfl ?_⟩
          refine AOps_q 47 _ rfl rfl rfl (QOp_move _ _ rfl rfl) ?_
          refine AOps_q 52 _ rfl rfl rfl (QOp_extract _ _ _ _ rfl rfl rfl) ?_
          refine AOps_q 53 _ rfl rfl rfl (QOp_extract _ _ _ _ rfl rfl rfl) ?_
          refine AOps_q 11 _ rfl rfl rfl (QOp_assign _ _ rfl rfl) ?_
          refine AOps_q 12 _ rfl rfl rfl (QOp_assign _ _ rfl rfl) ?_
          refine AOps_nil ?_
          obtain ⟨os61, hss61, hks61⟩ := bindO h
          clear h
          refine ACode_seqJ (fun E' H' => ∃ s61 : Unit, os61 = .inl s61 ∧ Weak 71 G E' H' [(7, .vec 0 0), (9, iV r41.1)] [.vec 0 (intsD r41.2)]) ?_ ?_
          · have h := hss61
            clear hss61
            obtain ⟨s59, hss59, hks59⟩ := bindO h
            clear h
            refine ACode_seqJ (fun E' H' => Weak 71 G E' H' [(7, .vec 0 0), (9, iV r41.1), (62, bV s59)] [.vec 0 (intsD r41.2)]) ?_ ?_
            · have h := hss59
              clear hss59
              refine (ACode_region ?_)
              refine AOps_q 54 _ rfl rfl rfl (QOp_move _ _ rfl rfl) ?_
              refine AOps_q 55 _ rfl rfl rfl (QOp_move _ _ rfl rfl) ?_
              obtain ⟨r57, hr57, h⟩ := bindO h
              refine AOps_callL [] 56 _ _ _ _ _ _ _ _ _ _ rfl rfl rfl rfl rfl rfl rfl Try.call27 rfl (nodupB_sound _ rfl) rfl rfl rfl (laws_eqInt64S_ac k l47 r2.1 _ hr57) ?_
              rintro _ _ ⟨rfl, rfl⟩
              refine ⟨(fun _ h => nomatch h), (allc (flat_s _) (fun _ h => nomatch h)), AOps_as 56 (v' := bV r57) (H' := [.vec 0 (intsD r41.2), .vec 0 (intsD l47)]) rfl rfl ?_⟩
              refine AOps_q 57 _ rfl rfl rfl (QOp_not _ _ _ rfl rfl) ?_
              refine AOps_q 58 _ rfl rfl rfl (QOp_move _ _ rfl rfl) ?_
              refine AOps_case 58 _ rfl (fun hb58 => ?_) (fun hb58 => ?_)
              · have h := iteT hb58 h
                refine AOps_skip 59 rfl rfl rfl ?_
                refine AOps_skip 60 rfl rfl rfl ?_
                refine AOps_skip 61 rfl rfl rfl ?_
                refine AOps_q 62 _ rfl rfl rfl (QOp_pick_t _ _ _ _ rfl rfl rfl) ?_
                refine AOps_nil ?_
                cases h
                exact Weak_keep 0 hm [7, 9, 62] [0] _ _ rfl rfl rfl
              · have h := iteF hb58 h
                refine AOps_q 59 _ rfl rfl rfl (QOp_move _ _ rfl rfl) ?_
                refine AOps_q 60 _ rfl rfl rfl (QOp_move _ _ rfl rfl) ?_
                refine AOps_q 61 _ rfl rfl rfl (QOp_neq _ _ _ _ _ _ _ rfl rfl rfl) ?_
                refine AOps_q 62 _ rfl rfl rfl (QOp_pick_f _ _ _ _ rfl rfl rfl) ?_
                refine AOps_nil ?_
                cases h
                exact Weak_keep 0 hm [7, 9, 62] [0] _ _ rfl rfl rfl
            intro E' H' hw
            refine ACode_weak hw ?_
            have h := hks59
            refine ACode_cond _ rfl (fun hb60 => ?_) (fun hb60 => ?_)
            · have h := iteT hb60 h
              refine ACode_seq (ACode_region ?_)
              refine AOps_q 4 _ rfl rfl rfl (QOp_assign _ _ rfl rfl) ?_
              refine AOps_nil ?_
              refine ACode_ret ?_
              cases h
              have h := hks61
              cases h
              exact ⟨_, _, fun r a w h => ⟨r, h⟩, _, _, [], _, (.cons (ResV_tmp _ _ rfl) .nil), rfl, rfl, rfl, rfl, rfl⟩
            · have h := iteF hb60 h
              refine ACode_skip ?_
              cases h
              exact ⟨_, rfl, Weak_keep 0 hm [7, 9] [0] _ _ rfl rfl rfl⟩
          rintro E' H' ⟨s61, rfl, hw⟩
          refine ACode_weak hw ?_
          have h := hks61
          refine ACode_seq (ACode_region ?_)
          refine AOps_q 10 _ rfl rfl rfl (QOp_assign _ _ rfl rfl) ?_
          refine AOps_nil ?_
          refine ACode_seq (ACode_region ?_)
          refine AOps_q 63 _ rfl rfl rfl (QOp_move _ _ rfl rfl) ?_
          refine AOps_q 64 _ rfl rfl rfl (QOp_move _ _ rfl rfl) ?_
          obtain ⟨r62, hr62, h⟩ := bindO h
          refine AOps_callL [] 65 _ _ _ _ _ _ _ _ _ _ rfl rfl rfl rfl rfl rfl rfl Try.call31 rfl (nodupB_sound _ rfl) rfl rfl rfl (laws_heldInt64S_ac k r41.2 1 _ hr62) ?_
          rintro _ _ ⟨rfl, rfl⟩
          refine ⟨(fun _ h => nomatch h), (allc (flat_s _) (fun _ h => nomatch h)), AOps_as 65 (v' := iV r62) (H' := [.vec 0 (intsD r41.2)]) rfl rfl ?_⟩
          refine AOps_q 10 _ rfl rfl rfl (QOp_assign _ _ rfl rfl) ?_
          refine AOps_nil ?_
          refine ACode_seq ?_
          refine ACode_seq (ACode_region ?_)
          refine AOps_q 66 _ rfl rfl rfl (QOp_move _ _ rfl rfl) ?_
          refine AOps_q 67 _ rfl rfl rfl (QOp_lss _ _ _ _ _ _ _ rfl rfl rfl) ?_
          refine AOps_nil ?_
          refine ACode_cond _ rfl (fun hb63 => ?_) (fun hb63 => ?_)
          · have h := iteT hb63 h
            refine ACode_seq (ACode_region ?_)
            refine AOps_q 4 _ rfl rfl rfl (QOp_assign _ _ rfl rfl) ?_
            refine AOps_nil ?_
            refine ACode_ret ?_
            cases h
            exact ⟨_, _, fun r a w h => ⟨r, h⟩, _, _, [], _, (.cons (ResV_tmp _ _ rfl) .nil), rfl, rfl, rfl, rfl, rfl⟩
          · have h := iteF hb63 h
            refine ACode_skip ?_
            refine ACode_seq ?_
            refine ACode_seq (ACode_region ?_)
            refine AOps_q 68 _ rfl rfl rfl (QOp_move _ _ rfl rfl) ?_
            refine AOps_q 69 _ rfl rfl rfl (QOp_move _ _ rfl rfl) ?_
            refine AOps_q 70 _ rfl rfl rfl (QOp_neq _ _ _ _ _ _ _ rfl rfl rfl) ?_
            refine AOps_nil ?_
            refine ACode_cond _ rfl (fun hb64 => ?_) (fun hb64 => ?_)
            · have h := iteT hb64 h
              refine ACode_seq (ACode_region ?_)
              refine AOps_q 4 _ rfl rfl rfl (QOp_assign _ _ rfl rfl) ?_
              refine AOps_nil ?_
              refine ACode_ret ?_
              cases h
              exact ⟨_, _, fun r a w h => ⟨r, h⟩, _, _, [], _, (.cons (ResV_tmp _ _ rfl) .nil), rfl, rfl, rfl, rfl, rfl⟩
            · have h := iteF hb64 h
              refine ACode_skip ?_
              refine ACode_seq (ACode_region ?_)
              refine AOps_q 4 _ rfl rfl rfl (QOp_assign _ _ rfl rfl) ?_
              refine AOps_nil ?_
              refine ACode_ret ?_
              cases h
              exact ⟨_, _, fun r a w h => ⟨r, h⟩, _, _, [], _, (.cons (ResV_tmp _ _ rfl) .nil), rfl, rfl, rfl, rfl, rfl⟩

end Go.Proofs.Ytjkanhdklfgghaa
