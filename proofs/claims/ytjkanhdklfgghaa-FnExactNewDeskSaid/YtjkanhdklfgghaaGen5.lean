/- Plain functions of the program and that the program computes them: printed by the own tool gen.py. No conditions. -/
import Derived.Test.YtjkanhdklfgghaaCol
import Derived.Test.YtjkanhdklfgghaaAb14
import Derived.Test.YtjkanhdklfgghaaProg
import Derived.KernelRfl
set_option linter.unusedVariables false
set_option linter.unusedSimpArgs false
namespace Go.Proofs.Ytjkanhdklfgghaa
open Go Go.RowKit Ab

theorem mixed : Try.prog.follows .mixedOrders = true := by kernel_rfl

-- loop.example/g01362/spec.l01Edge
def spec_l01Edge (p0 : Int) (p1 : Int) : Int :=
  (if decide (p1 < p0) then w64 ((w64 ((w64 (p0 * (w64 (p0 - 1)))).tdiv 2)) + p1) else w64 ((w64 ((w64 (p1 * (w64 (p1 - 1)))).tdiv 2)) + p0))
set_option maxRecDepth 100000 in
theorem spec_l01Edge_ac (p0 : Int) (p1 : Int) : AC Try.prog 109 [iV p0, iV p1] [] (fun res H' => res = [iV (spec_l01Edge p0 p1)] ∧ H' = []) := by
  refine AC_of_body true Try.func109 rfl Try.ntmps109 (rvs := [.tmp 4]) rfl rfl (fun G hG => ?_)
  have hm : G.H.length = 0 := by rw [hG]; rfl
  obtain ⟨r, h⟩ : ∃ r, spec_l01Edge p0 p1 = r := ⟨_, rfl⟩
  rw [h]
  unfold spec_l01Edge at h
  refine ACode_seq (ACode_region ?_)
  refine AOps_q 4 _ rfl rfl rfl (QOp_assign _ _ rfl rfl) ?_
  refine AOps_nil ?_
  refine ACode_seq ?_
  refine ACode_seq (ACode_region ?_)
  refine AOps_q 5 _ rfl rfl rfl (QOp_move _ _ rfl rfl) ?_
  refine AOps_q 6 _ rfl rfl rfl (QOp_move _ _ rfl rfl) ?_
  refine AOps_q 7 _ rfl rfl rfl (QOp_gtr _ _ _ _ _ _ _ rfl rfl rfl) ?_
  refine AOps_nil ?_
  refine ACode_cond _ rfl (fun hb1 => ?_) (fun hb1 => ?_)
  · have h := iteT hb1 h
    refine ACode_seq (ACode_region ?_)
    refine AOps_q 8 _ rfl rfl rfl (QOp_move _ _ rfl rfl) ?_
    refine AOps_q 9 _ rfl rfl rfl (QOp_move _ _ rfl rfl) ?_
    refine AOps_q 10 _ rfl rfl rfl (QOp_sub _ _ _ _ _ _ _ rfl rfl rfl) ?_
    refine AOps_q 11 _ rfl rfl rfl (QOp_mul _ _ _ _ _ _ _ rfl rfl rfl) ?_
    refine AOps_q 12 _ rfl rfl rfl (QOp_quo _ _ _ _ _ _ _ (by decide) rfl rfl rfl) ?_
    refine AOps_q 13 _ rfl rfl rfl (QOp_move _ _ rfl rfl) ?_
    refine AOps_q 14 _ rfl rfl rfl (QOp_add _ _ _ _ _ _ _ rfl rfl rfl) ?_
    refine AOps_q 4 _ rfl rfl rfl (QOp_assign _ _ rfl rfl) ?_
    refine AOps_nil ?_
    refine ACode_ret ?_
    cases h
    exact ⟨_, _, fun r a w h => ⟨r, h⟩, _, _, [], _, (.cons (ResV_tmp _ _ rfl) .nil), rfl, rfl, rfl, rfl, rfl⟩
  · have h := iteF hb1 h
    refine ACode_skip ?_
    refine ACode_seq (ACode_region ?_)
    refine AOps_q 15 _ rfl rfl rfl (QOp_move _ _ rfl rfl) ?_
    refine AOps_q 16 _ rfl rfl rfl (QOp_move _ _ rfl rfl) ?_
    refine AOps_q 17 _ rfl rfl rfl (QOp_sub _ _ _ _ _ _ _ rfl rfl rfl) ?_
    refine AOps_q 18 _ rfl rfl rfl (QOp_mul _ _ _ _ _ _ _ rfl rfl rfl) ?_
    refine AOps_q 19 _ rfl rfl rfl (QOp_quo _ _ _ _ _ _ _ (by decide) rfl rfl rfl) ?_
    refine AOps_q 20 _ rfl rfl rfl (QOp_move _ _ rfl rfl) ?_
    refine AOps_q 21 _ rfl rfl rfl (QOp_add _ _ _ _ _ _ _ rfl rfl rfl) ?_
    refine AOps_q 4 _ rfl rfl rfl (QOp_assign _ _ rfl rfl) ?_
    refine AOps_nil ?_
    refine ACode_ret ?_
    cases h
    exact ⟨_, _, fun r a w h => ⟨r, h⟩, _, _, [], _, (.cons (ResV_tmp _ _ rfl) .nil), rfl, rfl, rfl, rfl, rfl⟩

-- loop.example/g01362/spec.l01Circle
def spec_l01Circle_l2 (p1 : List Int) (x1 : Int) (x4 : Int) : Nat → UInt8 → Int → Option (UInt8)
  | 0, _, _ => none
  | k2 + 1, x7, x8 => (if decide (x8 < (p1.length : Int)) then ((if 0 ≤ x8 ∧ x8 < (p1.length : Int) then (if decide ((p1.getD x8.toNat 0) = w64 (x1 - x4)) then some (0 : UInt8) else some x7) else none) : Option (UInt8)).bind fun s12 => spec_l01Circle_l2 p1 x1 x4 k2 s12 (w64 (x8 + 1)) else some x7)
def spec_l01Circle_l1 (k : Nat) (p1 : List Int) (x1 : Int) : Nat → Int → Col → Option (Col)
  | 0, _, _ => none
  | k1 + 1, x4, x5 => (if decide (x4 < x1) then ((spec_l01Circle_l2 p1 x1 x4 k (1 : UInt8) 0 : Option (UInt8)).bind fun s13 => (if 0 ≤ (spec_l01Edge x4 x1) ∧ (spec_l01Edge x4 x1) < 136 then some (x5.set ((spec_l01Edge x4 x1).toNat) s13) else none) : Option (Col)).bind fun s16 => spec_l01Circle_l1 k p1 x1 k1 (w64 (x4 + 1)) s16 else some x5)
def spec_l01Circle_l0 (k : Nat) (p0 : Int) (p1 : List Int) : Nat → Int → Col → Option (Col)
  | 0, _, _ => none
  | k0 + 1, x1, x2 => (if decide (x1 < p0) then (spec_l01Circle_l1 k p1 x1 k 0 x2 : Option (Col)).bind fun s17 => spec_l01Circle_l0 k p0 p1 k0 (w64 (x1 + 1)) s17 else some x2)
def spec_l01Circle (k : Nat) (p0 : Int) (p1 : List Int) : Option (Col) :=
  (spec_l01Circle_l0 k p0 p1 k 1 (⟨p0, 2, B136.zero⟩ : Col) : Option (Col)).bind fun s18 => some s18
set_option maxRecDepth 100000 in
theorem spec_l01Circle_ac (k : Nat) (p0 : Int) (p1 : List Int) (r : Col) (h : spec_l01Circle k p0 p1 = some r) : AC Try.prog 124 [iV p0, .d (.sl none (intsD p1))] [] (fun res H' => res = [.d (.agg (colD r))] ∧ H' = []) := by
  refine AC_of_body true Try.func124 rfl Try.ntmps124 (rvs := [.cell 4 24]) rfl rfl (fun G hG => ?_)
  have hm : G.H.length = 0 := by rw [hG]; rfl
  unfold spec_l01Circle at h
  refine ACode_seq (ACode_region ?_)
  refine AOps_alloc 4 _ _ (colD Col.zero) (zero_of Try.typeInfo24 rfl) (by rfl) rfl rfl rfl rfl ?_
  refine AOps_nil ?_
  refine ACode_seq (ACode_region ?_)
  refine AOps_q 10 _ rfl rfl rfl (QOp_move _ _ rfl rfl) ?_
  refine AOps_q 11 _ rfl rfl rfl (QOp_build _ _ [_, _] [0, 1] [iD p0, iD 2] _ (colD Col.zero) (colD (⟨p0, 2, B136.zero⟩ : Col)) [(0, 1), (1, 1), (2, 136)] rfl rfl Try.underlying24 (zero_of Try.typeInfo24 rfl) (fun w => by simp [Try.sizeOf2, Try.sizeOf2, Try.sizeOf22]) rfl (by rfl) (by rfl) (allc (ok1 rfl) (allc (ok1 rfl) (fun _ h => nomatch h)))) ?_
  refine AOps_alloc 5 _ _ (colD Col.zero) (zero_of Try.typeInfo24 rfl) (by rfl) rfl rfl rfl rfl ?_
  refine AOps_store _ _ _ _ _ _ (colD _) _ _ rfl rfl rfl rfl rfl rfl rfl (colD_one _) (by rw [colD_length]; exact Try.sizeOf24) (by rw [colD_length, colD_length]; decide) (colD_whole _ _) ?_
  refine AOps_nil ?_
  obtain ⟨s18, hss18, hks18⟩ := bindO h
  clear h
  refine ACode_seqJ (fun E' H' => Weak 43 G E' H' [(4, .ptr 0 0), (5, .ptr 1 0)] [.box (colD Col.zero), .box (colD s18)]) ?_ ?_
  · have h := hss18
    clear hss18
    refine ACode_seq (ACode_region ?_)
    refine AOps_q 6 _ rfl rfl rfl (QOp_assign _ _ rfl rfl) ?_
    refine AOps_nil ?_
    refine ACode_block ?_
    refine ACode_loopW (fun k0 E H => ∃ (x1 : Int) (x2 : Col), E = [(0, iV p0), (1, .d (.sl none (intsD p1))), (4, .ptr 0 0), (5, .ptr 1 0), (6, iV x1)] ∧ H = [.box (colD Col.zero), .box (colD x2)] ∧ spec_l01Circle_l0 k p0 p1 k0 x1 x2 = some s18) k _ _ (Weak_keep 0 hm [0, 1, 4, 5, 6] [0, 1] _ _ rfl rfl rfl) ⟨_, _, rfl, rfl, h⟩ ?_
    clear h
    rintro k0 E H ⟨x1, x2, rfl, rfl, h⟩
    cases k0 with
    | zero => cases (show (none : Option (Col)) = some _ from h)
    | succ k0 =>
      rw [spec_l01Circle_l0] at h
      refine ACode_seq ?_
      refine ACode_seq (ACode_region ?_)
      refine AOps_q 12 _ rfl rfl rfl (QOp_move _ _ rfl rfl) ?_
      refine AOps_q 13 _ rfl rfl rfl (QOp_move _ _ rfl rfl) ?_
      refine AOps_q 14 _ rfl rfl rfl (QOp_lss _ _ _ _ _ _ _ rfl rfl rfl) ?_
      refine AOps_nil ?_
      refine ACode_cond _ rfl (fun hb3 => ?_) (fun hb3 => ?_)
      · have h := iteT hb3 h
        refine ACode_skip ?_
        obtain ⟨s17, hss17, hks17⟩ := bindO h
        clear h
        refine ACode_seqJ (fun E' H' => Weak 43 G E' H' [(0, iV p0), (1, .d (.sl none (intsD p1))), (4, .ptr 0 0), (5, .ptr 1 0), (6, iV x1)] [.box (colD Col.zero), .box (colD s17)]) ?_ ?_
        · have h := hss17
          clear hss17
          refine ACode_block ?_
          refine ACode_seq (ACode_region ?_)
          refine AOps_q 7 _ rfl rfl rfl (QOp_assign _ _ rfl rfl) ?_
          refine AOps_nil ?_
          refine ACode_block ?_
          refine ACode_loopW (fun k1 E H => ∃ (x4 : Int) (x5 : Col), E = [(0, iV p0), (1, .d (.sl none (intsD p1))), (4, .ptr 0 0), (5, .ptr 1 0), (6, iV x1), (7, iV x4)] ∧ H = [.box (colD Col.zero), .box (colD x5)] ∧ spec_l01Circle_l1 k p1 x1 k1 x4 x5 = some s17) k _ _ (Weak_keep 0 hm [0, 1, 4, 5, 6, 7] [0, 1] _ _ rfl rfl rfl) ⟨_, _, rfl, rfl, h⟩ ?_
          clear h
          rintro k1 E H ⟨x4, x5, rfl, rfl, h⟩
          cases k1 with
          | zero => cases (show (none : Option (Col)) = some _ from h)
          | succ k1 =>
            rw [spec_l01Circle_l1] at h
            refine ACode_seq ?_
            refine ACode_seq (ACode_region ?_)
            refine AOps_q 17 _ rfl rfl rfl (QOp_move _ _ rfl rfl) ?_
            refine AOps_q 18 _ rfl rfl rfl (QOp_move _ _ rfl rfl) ?_
            refine AOps_q 19 _ rfl rfl rfl (QOp_lss _ _ _ _ _ _ _ rfl rfl rfl) ?_
            refine AOps_nil ?_
            refine ACode_cond _ rfl (fun hb6 => ?_) (fun hb6 => ?_)
            · have h := iteT hb6 h
              refine ACode_skip ?_
              obtain ⟨s16, hss16, hks16⟩ := bindO h
              clear h
              refine ACode_seqJ (fun E' H' => Weak 43 G E' H' [(0, iV p0), (1, .d (.sl none (intsD p1))), (4, .ptr 0 0), (5, .ptr 1 0), (6, iV x1), (7, iV x4)] [.box (colD Col.zero), .box (colD s16)]) ?_ ?_
              · have h := hss16
                clear hss16
                refine ACode_block ?_
                refine ACode_seq (ACode_region ?_)
                refine AOps_q 8 _ rfl rfl rfl (QOp_assign _ _ rfl rfl) ?_
                refine AOps_nil ?_
                obtain ⟨s13, hss13, hks13⟩ := bindO h
                clear h
                refine ACode_seqJ (fun E' H' => Weak 43 G E' H' [(0, iV p0), (1, .d (.sl none (intsD p1))), (4, .ptr 0 0), (5, .ptr 1 0), (6, iV x1), (7, iV x4), (8, .d (uD s13))] [.box (colD Col.zero), .box (colD x5)]) ?_ ?_
                · have h := hss13
                  clear hss13
                  refine ACode_seq (ACode_region ?_)
                  refine AOps_q 9 _ rfl rfl rfl (QOp_assign _ _ rfl rfl) ?_
                  refine AOps_nil ?_
                  refine ACode_block ?_
                  refine ACode_loopW (fun k2 E H => ∃ (x7 : UInt8) (x8 : Int), E = [(0, iV p0), (1, .d (.sl none (intsD p1))), (4, .ptr 0 0), (5, .ptr 1 0), (6, iV x1), (7, iV x4), (8, .d (uD x7)), (9, iV x8)] ∧ H = [.box (colD Col.zero), .box (colD x5)] ∧ spec_l01Circle_l2 p1 x1 x4 k2 x7 x8 = some s13) k _ _ (Weak_keep 0 hm [0, 1, 4, 5, 6, 7, 8, 9] [0, 1] _ _ rfl rfl rfl) ⟨_, _, rfl, rfl, h⟩ ?_
                  clear h
                  rintro k2 E H ⟨x7, x8, rfl, rfl, h⟩
                  cases k2 with
                  | zero => cases (show (none : Option (UInt8)) = some _ from h)
                  | succ k2 =>
                    rw [spec_l01Circle_l2] at h
                    refine ACode_seq ?_
                    refine ACode_seq (ACode_region ?_)
                    refine AOps_q 22 _ rfl rfl rfl (QOp_move _ _ rfl rfl) ?_
                    refine AOps_q 23 _ rfl rfl rfl (QOp_move _ _ rfl rfl) ?_
                    refine AOps_q 24 _ rfl rfl rfl (QOp_len_sl _ _ _ _ _ _ _ (intsD_length _) rfl rfl rfl rfl Try.underlying38 rfl) ?_
                    refine AOps_q 25 _ rfl rfl rfl (QOp_lss _ _ _ _ _ _ _ rfl rfl rfl) ?_
                    refine AOps_nil ?_
                    refine ACode_cond _ rfl (fun hb9 => ?_) (fun hb9 => ?_)
                    · have h := iteT hb9 h
                      refine ACode_skip ?_
                      obtain ⟨s12, hss12, hks12⟩ := bindO h
                      clear h
                      refine ACode_seqJ (fun E' H' => Weak 43 G E' H' [(0, iV p0), (1, .d (.sl none (intsD p1))), (4, .ptr 0 0), (5, .ptr 1 0), (6, iV x1), (7, iV x4), (8, .d (uD s12)), (9, iV x8)] [.box (colD Col.zero), .box (colD x5)]) ?_ ?_
                      · have h := hss12
                        clear hss12
                        refine ACode_block ?_
                        refine ACode_seq (ACode_region ?_)
                        refine AOps_q 28 _ rfl rfl rfl (QOp_move _ _ rfl rfl) ?_
                        refine AOps_q 29 _ rfl rfl rfl (QOp_move _ _ rfl rfl) ?_
                        obtain ⟨hc10, h⟩ := guardO h
                        refine AOps_q 30 _ rfl rfl rfl (QOp_indexAddr_sl _ _ _ _ _ _ _ _ rfl Try.underlying38 Try.sizeOf2 hc10.1 (by rw [intsD_length]; exact hc10.2) rfl rfl) ?_
                        refine AOps_q 31 _ rfl rfl rfl (QOp_load_pv _ _ _ _ _ rfl Try.isAgg2 rfl (intsD_get _ _ 0 (by omega))) ?_
                        refine AOps_q 32 _ rfl rfl rfl (QOp_move _ _ rfl rfl) ?_
                        refine AOps_q 33 _ rfl rfl rfl (QOp_move _ _ rfl rfl) ?_
                        refine AOps_q 34 _ rfl rfl rfl (QOp_sub _ _ _ _ _ _ _ rfl rfl rfl) ?_
                        refine AOps_q 35 _ rfl rfl rfl (QOp_eql _ _ _ _ _ _ _ rfl rfl rfl) ?_
                        refine AOps_nil ?_
                        refine ACode_cond _ rfl (fun hb11 => ?_) (fun hb11 => ?_)
                        · have h := iteT hb11 h
                          refine (ACode_region ?_)
                          refine AOps_q 8 _ rfl rfl rfl (QOp_assign _ _ rfl rfl) ?_
                          refine AOps_nil ?_
                          cases h
                          exact Weak_keep 0 hm [0, 1, 4, 5, 6, 7, 8, 9] [0, 1] _ _ rfl rfl rfl
                        · have h := iteF hb11 h
                          refine ACode_skip ?_
                          cases h
                          exact Weak_keep 0 hm [0, 1, 4, 5, 6, 7, 8, 9] [0, 1] _ _ rfl rfl rfl
                      intro E' H' hw
                      refine ACode_weak hw ?_
                      have h := hks12
                      refine (ACode_region ?_)
                      refine AOps_q 26 _ rfl rfl rfl (QOp_move _ _ rfl rfl) ?_
                      refine AOps_q 27 _ rfl rfl rfl (QOp_add _ _ _ _ _ _ _ rfl rfl rfl) ?_
                      refine AOps_q 9 _ rfl rfl rfl (QOp_assign _ _ rfl rfl) ?_
                      refine AOps_nil ?_
                      exact ⟨k2, _, _, Nat.lt_succ_self _, Weak_keep 0 hm [0, 1, 4, 5, 6, 7, 8, 9] [0, 1] _ _ rfl rfl rfl, _, _, rfl, rfl, h⟩
                    · have h := iteF hb9 h
                      refine ACode_exit ?_
                      cases h
                      exact Weak_keep 0 hm [0, 1, 4, 5, 6, 7, 8] [0, 1] _ _ rfl rfl rfl
                intro E' H' hw
                refine ACode_weak hw ?_
                have h := hks13
                refine (ACode_region ?_)
                refine AOps_q 36 _ rfl rfl rfl (QOp_move _ _ rfl rfl) ?_
                refine AOps_q 37 _ rfl rfl rfl (QOp_move _ _ rfl rfl) ?_
                refine AOps_call [] 38 _ _ _ _ _ _ _ _ _ _ rfl rfl rfl rfl rfl rfl rfl Try.call109 rfl (nodupB_sound _ rfl) rfl rfl rfl (spec_l01Edge_ac x4 x1) ?_
                rintro _ _ ⟨rfl, rfl⟩
                refine ⟨(fun _ h => nomatch h), (allc (trivial) (fun _ h => nomatch h)), AOps_as 38 (v' := iV (spec_l01Edge x4 x1)) (H' := [.box (colD Col.zero), .box (colD x5)]) rfl rfl ?_⟩
                refine AOps_q 39 _ rfl rfl rfl (QOp_move _ _ rfl rfl) ?_
                refine AOps_q 40 _ rfl rfl rfl (QOp_fieldAddr_ptr _ _ _ _ _ _ 2 _ _ rfl Try.underlying24 rfl _ Try.sizeOf22 rfl rfl rfl rfl) ?_
                obtain ⟨hc15, h⟩ := guardO h
                refine AOps_q 41 _ rfl rfl rfl (QOp_indexAddrA_ptr _ _ _ _ _ _ _ _ _ _ rfl Try.underlying22 Try.sizeOf5 hc15.1 hc15.2 rfl rfl rfl rfl) ?_
                refine AOps_store1 _ _ _ _ _ _ (colD (x5.set ((spec_l01Edge x4 x1).toNat) s13)) _ rfl rfl rfl rfl rfl rfl rfl Try.sizeOf5 (by rw [colD_length]; omega) (colD_setE x5 ((spec_l01Edge x4 x1).toNat) s13) ?_
                refine AOps_nil ?_
                cases h
                exact Weak_keep 0 hm [0, 1, 4, 5, 6, 7] [0, 1] _ _ rfl rfl rfl
              intro E' H' hw
              refine ACode_weak hw ?_
              have h := hks16
              refine (ACode_region ?_)
              refine AOps_q 20 _ rfl rfl rfl (QOp_move _ _ rfl rfl) ?_
              refine AOps_q 21 _ rfl rfl rfl (QOp_add _ _ _ _ _ _ _ rfl rfl rfl) ?_
              refine AOps_q 7 _ rfl rfl rfl (QOp_assign _ _ rfl rfl) ?_
              refine AOps_nil ?_
              exact ⟨k1, _, _, Nat.lt_succ_self _, Weak_keep 0 hm [0, 1, 4, 5, 6, 7] [0, 1] _ _ rfl rfl rfl, _, _, rfl, rfl, h⟩
            · have h := iteF hb6 h
              refine ACode_exit ?_
              cases h
              exact Weak_keep 0 hm [0, 1, 4, 5, 6] [0, 1] _ _ rfl rfl rfl
        intro E' H' hw
        refine ACode_weak hw ?_
        have h := hks17
        refine (ACode_region ?_)
        refine AOps_q 15 _ rfl rfl rfl (QOp_move _ _ rfl rfl) ?_
        refine AOps_q 16 _ rfl rfl rfl (QOp_add _ _ _ _ _ _ _ rfl rfl rfl) ?_
        refine AOps_q 6 _ rfl rfl rfl (QOp_assign _ _ rfl rfl) ?_
        refine AOps_nil ?_
        exact ⟨k0, _, _, Nat.lt_succ_self _, Weak_keep 0 hm [0, 1, 4, 5, 6] [0, 1] _ _ rfl rfl rfl, _, _, rfl, rfl, h⟩
      · have h := iteF hb3 h
        refine ACode_exit ?_
        cases h
        exact Weak_keep 0 hm [4, 5] [0, 1] _ _ rfl rfl rfl
  intro E' H' hw
  refine ACode_weak hw ?_
  have h := hks18
  refine ACode_seq (ACode_region ?_)
  refine AOps_q 42 _ rfl rfl rfl (QOp_loadN_ptr _ _ _ _ _ _ _ rfl Try.isAgg24 Try.sizeOf24 rfl rfl (colD_all _) (colD_length _)) ?_
  refine AOps_store _ _ _ _ _ _ (colD _) _ _ rfl rfl rfl rfl rfl rfl rfl (colD_one _) (by rw [colD_length]; exact Try.sizeOf24) (by rw [colD_length, colD_length]; decide) (colD_whole _ _) ?_
  refine AOps_nil ?_
  refine ACode_ret ?_
  cases h
  exact ⟨_, _, fun r a w h => ⟨r, h⟩, _, _, [], _, (.cons (ResV_agg _ _ _ _ _ _ Try.isAgg24 Try.sizeOf24 rfl rfl (colD_take _) (colD_length _)) .nil), rfl, rfl, rfl, rfl, rfl⟩

-- loop.example/g01362/spec.l01Named
def spec_l01Named_l1 (x10 : Int) : Nat → Int → Col → Option (Col)
  | 0, _, _ => none
  | k1 + 1, x13, x14 => (if decide (x13 < x10) then (if 0 ≤ bXor .i64 x13 x10 ∧ bXor .i64 x13 x10 < (([0, 0, 1, 1, 2, 2, 2, 1, 0, 2, 0, 1, 0, 1, 2, 0]).length : Int) then (if 0 ≤ (spec_l01Edge x13 x10) ∧ (spec_l01Edge x13 x10) < 136 then spec_l01Named_l1 x10 k1 (w64 (x13 + 1)) (x14.set ((spec_l01Edge x13 x10).toNat) (([0, 0, 1, 1, 2, 2, 2, 1, 0, 2, 0, 1, 0, 1, 2, 0]).getD (bXor .i64 x13 x10).toNat 0)) else none) else none) else some x14)
def spec_l01Named_l0 (k : Nat) : Nat → Int → Col → Option (Col)
  | 0, _, _ => none
  | k0 + 1, x10, x11 => (if decide (x10 < 16) then (spec_l01Named_l1 x10 k 0 x11 : Option (Col)).bind fun s19 => spec_l01Named_l0 k k0 (w64 (x10 + 1)) s19 else some x11)
def spec_l01Named (k : Nat) (p0 : ByteArray) : Option (Col × Bool) :=
  ((if (p0 == ⟨#[112, 101, 110, 116, 97, 103, 111, 110]⟩) then (spec_l01Circle k 5 ([1, 4])).bind fun r2 => some (.inr (r2, true)) else (if (p0 == ⟨#[101, 105, 103, 104, 116]⟩) then (spec_l01Circle k 8 ([1, 4, 7])).bind fun r4 => some (.inr (r4, true)) else (if (p0 == ⟨#[116, 104, 105, 114, 116, 101, 101, 110]⟩) then (spec_l01Circle k 13 ([1, 5, 8, 12])).bind fun r6 => some (.inr (r6, true)) else (if (p0 == ⟨#[115, 101, 118, 101, 110, 116, 101, 101, 110]⟩) then (spec_l01Circle k 17 ([1, 2, 4, 8, 9, 13, 15, 16])).bind fun r8 => some (.inr (r8, true)) else (if (p0 == ⟨#[115, 105, 120, 116, 101, 101, 110]⟩) then (spec_l01Named_l0 k k 1 (⟨16, 3, B136.zero⟩ : Col) : Option (Col)).bind fun s20 => some (.inr (s20, true)) else some (.inl ())))))) : Option (Sum (Unit) (Col × Bool))).bind fun os21 => (match os21 with | .inl s21 => some ((⟨0, 0, B136.zero⟩ : Col), false) | .inr rr => some rr)
set_option maxRecDepth 100000 in
theorem spec_l01Named_ac (k : Nat) (p0 : ByteArray) (r : Col × Bool) (h : spec_l01Named k p0 = some r) : AC Try.prog 96 [.d (.s (.string p0))] [] (fun res H' => res = [.d (.agg (colD r.1)), bV r.2] ∧ H' = []) := by
  refine AC_of_body true Try.func96 rfl Try.ntmps96 (rvs := [.cell 2 24, .tmp 3]) rfl rfl (fun G hG => ?_)
  have hm : G.H.length = 0 := by rw [hG]; rfl
  unfold spec_l01Named at h
  refine ACode_seq (ACode_region ?_)
  refine AOps_alloc 2 _ _ (colD Col.zero) (zero_of Try.typeInfo24 rfl) (by rfl) rfl rfl rfl rfl ?_
  refine AOps_q 3 _ rfl rfl rfl (QOp_assign _ _ rfl rfl) ?_
  refine AOps_nil ?_
  obtain ⟨os21, hss21, hks21⟩ := bindO h
  clear h
  refine ACode_seqJ (fun E' H' => ∃ s21 : Unit, os21 = .inl s21 ∧ Weak 51 G E' H' [(2, .ptr 0 0)] [.box (colD Col.zero)]) ?_ ?_
  · have h := hss21
    clear hss21
    refine ACode_seq (ACode_region ?_)
    refine AOps_q 8 _ rfl rfl rfl (QOp_move _ _ rfl rfl) ?_
    refine AOps_nil ?_
    refine ACode_block ?_
    refine ACode_seq (ACode_region ?_)
    refine AOps_q 10 _ rfl rfl rfl (QOp_seq _ _ _ _ _ _ rfl rfl rfl Try.underlying9) ?_
    refine AOps_q 9 _ rfl rfl rfl (QOp_assign _ _ rfl rfl) ?_
    refine AOps_nil ?_
    refine ACode_cond _ rfl (fun hb1 => ?_) (fun hb1 => ?_)
    · have h := iteT hb1 h
      refine ACode_seq (ACode_region ?_)
      refine AOps_buildSlice 11 _ _ _ [_, _] (intsD ([1, 4])) _ rfl rfl rfl rfl rfl (by decide) Try.underlying38 Try.sizeOf2 (zero_of Try.typeInfo2 rfl) rfl rfl (intsD_one _) ?_
      obtain ⟨r2, hr2, h⟩ := bindO h
      refine AOps_callL [] 12 _ _ _ _ _ _ _ _ _ _ rfl rfl rfl rfl rfl rfl rfl Try.call124 rfl (nodupB_sound _ rfl) rfl rfl rfl (spec_l01Circle_ac k 5 ([1, 4]) _ hr2) ?_
      rintro _ _ ⟨rfl, rfl⟩
      refine ⟨(fun _ h => nomatch h), (allc (flat_agg (colD_flat _)) (fun _ h => nomatch h)), AOps_as 12 (v' := .d (.agg (colD r2))) (H' := [.box (colD Col.zero), .vec 0 (intsD ([1, 4]))]) rfl rfl ?_⟩
      refine AOps_store _ _ _ _ _ _ (colD _) _ _ rfl rfl rfl rfl rfl rfl rfl (colD_one _) (by rw [colD_length]; exact Try.sizeOf24) (by rw [colD_length, colD_length]; decide) (colD_whole _ _) ?_
      refine AOps_q 3 _ rfl rfl rfl (QOp_assign _ _ rfl rfl) ?_
      refine AOps_nil ?_
      refine ACode_ret ?_
      cases h
      have h := hks21
      cases h
      exact ⟨_, _, fun r a w h => ⟨r, h⟩, _, _, [], _, (.cons (ResV_agg _ _ _ _ _ _ Try.isAgg24 Try.sizeOf24 rfl rfl (colD_take _) (colD_length _)) (.cons (ResV_tmp _ _ rfl) .nil)), rfl, rfl, rfl, rfl, rfl⟩
    · have h := iteF hb1 h
      refine ACode_seq (ACode_region ?_)
      refine AOps_q 14 _ rfl rfl rfl (QOp_seq _ _ _ _ _ _ rfl rfl rfl Try.underlying9) ?_
      refine AOps_q 13 _ rfl rfl rfl (QOp_assign _ _ rfl rfl) ?_
      refine AOps_nil ?_
      refine ACode_cond _ rfl (fun hb3 => ?_) (fun hb3 => ?_)
      · have h := iteT hb3 h
        refine ACode_seq (ACode_region ?_)
        refine AOps_buildSlice 15 _ _ _ [_, _, _] (intsD ([1, 4, 7])) _ rfl rfl rfl rfl rfl (by decide) Try.underlying38 Try.sizeOf2 (zero_of Try.typeInfo2 rfl) rfl rfl (intsD_one _) ?_
        obtain ⟨r4, hr4, h⟩ := bindO h
        refine AOps_callL [] 16 _ _ _ _ _ _ _ _ _ _ rfl rfl rfl rfl rfl rfl rfl Try.call124 rfl (nodupB_sound _ rfl) rfl rfl rfl (spec_l01Circle_ac k 8 ([1, 4, 7]) _ hr4) ?_
        rintro _ _ ⟨rfl, rfl⟩
        refine ⟨(fun _ h => nomatch h), (allc (flat_agg (colD_flat _)) (fun _ h => nomatch h)), AOps_as 16 (v' := .d (.agg (colD r4))) (H' := [.box (colD Col.zero), .vec 0 (intsD ([1, 4, 7]))]) rfl rfl ?_⟩
        refine AOps_store _ _ _ _ _ _ (colD _) _ _ rfl rfl rfl rfl rfl rfl rfl (colD_one _) (by rw [colD_length]; exact Try.sizeOf24) (by rw [colD_length, colD_length]; decide) (colD_whole _ _) ?_
        refine AOps_q 3 _ rfl rfl rfl (QOp_assign _ _ rfl rfl) ?_
        refine AOps_nil ?_
        refine ACode_ret ?_
        cases h
        have h := hks21
        cases h
        exact ⟨_, _, fun r a w h => ⟨r, h⟩, _, _, [], _, (.cons (ResV_agg _ _ _ _ _ _ Try.isAgg24 Try.sizeOf24 rfl rfl (colD_take _) (colD_length _)) (.cons (ResV_tmp _ _ rfl) .nil)), rfl, rfl, rfl, rfl, rfl⟩
      · have h := iteF hb3 h
        refine ACode_seq (ACode_region ?_)
        refine AOps_q 18 _ rfl rfl rfl (QOp_seq _ _ _ _ _ _ rfl rfl rfl Try.underlying9) ?_
        refine AOps_q 17 _ rfl rfl rfl (QOp_assign _ _ rfl rfl) ?_
        refine AOps_nil ?_
        refine ACode_cond _ rfl (fun hb5 => ?_) (fun hb5 => ?_)
        · have h := iteT hb5 h
          refine ACode_seq (ACode_region ?_)
          refine AOps_buildSlice 19 _ _ _ [_, _, _, _] (intsD ([1, 5, 8, 12])) _ rfl rfl rfl rfl rfl (by decide) Try.underlying38 Try.sizeOf2 (zero_of Try.typeInfo2 rfl) rfl rfl (intsD_one _) ?_
          obtain ⟨r6, hr6, h⟩ := bindO h
          refine AOps_callL [] 20 _ _ _ _ _ _ _ _ _ _ rfl rfl rfl rfl rfl rfl rfl Try.call124 rfl (nodupB_sound _ rfl) rfl rfl rfl (spec_l01Circle_ac k 13 ([1, 5, 8, 12]) _ hr6) ?_
          rintro _ _ ⟨rfl, rfl⟩
          refine ⟨(fun _ h => nomatch h), (allc (flat_agg (colD_flat _)) (fun _ h => nomatch h)), AOps_as 20 (v' := .d (.agg (colD r6))) (H' := [.box (colD Col.zero), .vec 0 (intsD ([1, 5, 8, 12]))]) rfl rfl ?_⟩
          refine AOps_store _ _ _ _ _ _ (colD _) _ _ rfl rfl rfl rfl rfl rfl rfl (colD_one _) (by rw [colD_length]; exact Try.sizeOf24) (by rw [colD_length, colD_length]; decide) (colD_whole _ _) ?_
          refine AOps_q 3 _ rfl rfl rfl (QOp_assign _ _ rfl rfl) ?_
          refine AOps_nil ?_
          refine ACode_ret ?_
          cases h
          have h := hks21
          cases h
          exact ⟨_, _, fun r a w h => ⟨r, h⟩, _, _, [], _, (.cons (ResV_agg _ _ _ _ _ _ Try.isAgg24 Try.sizeOf24 rfl rfl (colD_take _) (colD_length _)) (.cons (ResV_tmp _ _ rfl) .nil)), rfl, rfl, rfl, rfl, rfl⟩
        · have h := iteF hb5 h
          refine ACode_seq (ACode_region ?_)
          refine AOps_q 22 _ rfl rfl rfl (QOp_seq _ _ _ _ _ _ rfl rfl rfl Try.underlying9) ?_
          refine AOps_q 21 _ rfl rfl rfl (QOp_assign _ _ rfl rfl) ?_
          refine AOps_nil ?_
          refine ACode_cond _ rfl (fun hb7 => ?_) (fun hb7 => ?_)
          · have h := iteT hb7 h
            refine ACode_seq (ACode_region ?_)
            refine AOps_buildSlice 23 _ _ _ [_, _, _, _, _, _, _, _] (intsD ([1, 2, 4, 8, 9, 13, 15, 16])) _ rfl rfl rfl rfl rfl (by decide) Try.underlying38 Try.sizeOf2 (zero_of Try.typeInfo2 rfl) rfl rfl (intsD_one _) ?_
            obtain ⟨r8, hr8, h⟩ := bindO h
            refine AOps_callL [] 24 _ _ _ _ _ _ _ _ _ _ rfl rfl rfl rfl rfl rfl rfl Try.call124 rfl (nodupB_sound _ rfl) rfl rfl rfl (spec_l01Circle_ac k 17 ([1, 2, 4, 8, 9, 13, 15, 16]) _ hr8) ?_
            rintro _ _ ⟨rfl, rfl⟩
            refine ⟨(fun _ h => nomatch h), (allc (flat_agg (colD_flat _)) (fun _ h => nomatch h)), AOps_as 24 (v' := .d (.agg (colD r8))) (H' := [.box (colD Col.zero), .vec 0 (intsD ([1, 2, 4, 8, 9, 13, 15, 16]))]) rfl rfl ?_⟩
            refine AOps_store _ _ _ _ _ _ (colD _) _ _ rfl rfl rfl rfl rfl rfl rfl (colD_one _) (by rw [colD_length]; exact Try.sizeOf24) (by rw [colD_length, colD_length]; decide) (colD_whole _ _) ?_
            refine AOps_q 3 _ rfl rfl rfl (QOp_assign _ _ rfl rfl) ?_
            refine AOps_nil ?_
            refine ACode_ret ?_
            cases h
            have h := hks21
            cases h
            exact ⟨_, _, fun r a w h => ⟨r, h⟩, _, _, [], _, (.cons (ResV_agg _ _ _ _ _ _ Try.isAgg24 Try.sizeOf24 rfl rfl (colD_take _) (colD_length _)) (.cons (ResV_tmp _ _ rfl) .nil)), rfl, rfl, rfl, rfl, rfl⟩
          · have h := iteF hb7 h
            refine ACode_seq (ACode_region ?_)
            refine AOps_q 26 _ rfl rfl rfl (QOp_seq _ _ _ _ _ _ rfl rfl rfl Try.underlying9) ?_
            refine AOps_q 25 _ rfl rfl rfl (QOp_assign _ _ rfl rfl) ?_
            refine AOps_nil ?_
            refine ACode_cond _ rfl (fun hb9 => ?_) (fun hb9 => ?_)
            · have h := iteT hb9 h
              refine ACode_seq (ACode_region ?_)
              refine AOps_buildSlice 27 _ _ _ [_, _, _, _, _, _, _, _, _, _, _, _, _, _, _, _] (bysD ([0, 0, 1, 1, 2, 2, 2, 1, 0, 2, 0, 1, 0, 1, 2, 0])) _ rfl rfl rfl rfl rfl (by decide) Try.underlying110 Try.sizeOf5 (zero_of Try.typeInfo5 rfl) rfl rfl (bysD_one _) ?_
              refine AOps_q 4 _ rfl rfl rfl (QOp_assign _ _ rfl rfl) ?_
              refine AOps_nil ?_
              refine ACode_seq (ACode_region ?_)
              refine AOps_q 28 _ rfl rfl rfl (QOp_build _ _ [_, _] [0, 1] [iD 16, iD 3] _ (colD Col.zero) (colD (⟨16, 3, B136.zero⟩ : Col)) [(0, 1), (1, 1), (2, 136)] rfl rfl Try.underlying24 (zero_of Try.typeInfo24 rfl) (fun w => by simp [Try.sizeOf2, Try.sizeOf2, Try.sizeOf22]) rfl (by rfl) (by rfl) (allc (ok1 rfl) (allc (ok1 rfl) (fun _ h => nomatch h)))) ?_
              refine AOps_alloc 5 _ _ (colD Col.zero) (zero_of Try.typeInfo24 rfl) (by rfl) rfl rfl rfl rfl ?_
              refine AOps_store _ _ _ _ _ _ (colD _) _ _ rfl rfl rfl rfl rfl rfl rfl (colD_one _) (by rw [colD_length]; exact Try.sizeOf24) (by rw [colD_length, colD_length]; decide) (colD_whole _ _) ?_
              refine AOps_nil ?_
              obtain ⟨s20, hss20, hks20⟩ := bindO h
              clear h
              refine ACode_seqJ (fun E' H' => Weak 51 G E' H' [(2, .ptr 0 0), (5, .ptr 1 0)] [.box (colD Col.zero), .box (colD s20)]) ?_ ?_
              · have h := hss20
                clear hss20
                refine ACode_seq (ACode_region ?_)
                refine AOps_q 6 _ rfl rfl rfl (QOp_assign _ _ rfl rfl) ?_
                refine AOps_nil ?_
                refine ACode_block ?_
                refine ACode_loopW (fun k0 E H => ∃ (x10 : Int) (x11 : Col), E = [(2, .ptr 0 0), (4, .vec 1 0), (5, .ptr 2 0), (6, iV x10)] ∧ H = [.box (colD Col.zero), .vec 0 (bysD ([0, 0, 1, 1, 2, 2, 2, 1, 0, 2, 0, 1, 0, 1, 2, 0])), .box (colD x11)] ∧ spec_l01Named_l0 k k0 x10 x11 = some s20) k _ _ (Weak_keep 0 hm [2, 4, 5, 6] [0, 1, 2] _ _ rfl rfl rfl) ⟨_, _, rfl, rfl, h⟩ ?_
                clear h
                rintro k0 E H ⟨x10, x11, rfl, rfl, h⟩
                cases k0 with
                | zero => cases (show (none : Option (Col)) = some _ from h)
                | succ k0 =>
                  rw [spec_l01Named_l0] at h
                  refine ACode_seq ?_
                  refine ACode_seq (ACode_region ?_)
                  refine AOps_q 29 _ rfl rfl rfl (QOp_move _ _ rfl rfl) ?_
                  refine AOps_q 30 _ rfl rfl rfl (QOp_lss _ _ _ _ _ _ _ rfl rfl rfl) ?_
                  refine AOps_nil ?_
                  refine ACode_cond _ rfl (fun hb12 => ?_) (fun hb12 => ?_)
                  · have h := iteT hb12 h
                    refine ACode_skip ?_
                    obtain ⟨s19, hss19, hks19⟩ := bindO h
                    clear h
                    refine ACode_seqJ (fun E' H' => Weak 51 G E' H' [(2, .ptr 0 0), (4, .vec 1 0), (5, .ptr 2 0), (6, iV x10)] [.box (colD Col.zero), .vec 0 (bysD ([0, 0, 1, 1, 2, 2, 2, 1, 0, 2, 0, 1, 0, 1, 2, 0])), .box (colD s19)]) ?_ ?_
                    · have h := hss19
                      clear hss19
                      refine ACode_block ?_
                      refine ACode_seq (ACode_region ?_)
                      refine AOps_q 7 _ rfl rfl rfl (QOp_assign _ _ rfl rfl) ?_
                      refine AOps_nil ?_
                      refine ACode_block ?_
                      refine ACode_loopW (fun k1 E H => ∃ (x13 : Int) (x14 : Col), E = [(2, .ptr 0 0), (4, .vec 1 0), (5, .ptr 2 0), (6, iV x10), (7, iV x13)] ∧ H = [.box (colD Col.zero), .vec 0 (bysD ([0, 0, 1, 1, 2, 2, 2, 1, 0, 2, 0, 1, 0, 1, 2, 0])), .box (colD x14)] ∧ spec_l01Named_l1 x10 k1 x13 x14 = some s19) k _ _ (Weak_keep 0 hm [2, 4, 5, 6, 7] [0, 1, 2] _ _ rfl rfl rfl) ⟨_, _, rfl, rfl, h⟩ ?_
                      clear h
                      rintro k1 E H ⟨x13, x14, rfl, rfl, h⟩
                      cases k1 with
                      | zero => cases (show (none : Option (Col)) = some _ from h)
                      | succ k1 =>
                        rw [spec_l01Named_l1] at h
                        refine ACode_seq ?_
                        refine ACode_seq (ACode_region ?_)
                        refine AOps_q 33 _ rfl rfl rfl (QOp_move _ _ rfl rfl) ?_
                        refine AOps_q 34 _ rfl rfl rfl (QOp_move _ _ rfl rfl) ?_
                        refine AOps_q 35 _ rfl rfl rfl (QOp_lss _ _ _ _ _ _ _ rfl rfl rfl) ?_
                        refine AOps_nil ?_
                        refine ACode_cond _ rfl (fun hb15 => ?_) (fun hb15 => ?_)
                        · have h := iteT hb15 h
                          refine ACode_skip ?_
                          refine ACode_seq ?_
                          refine ACode_block ?_
                          refine (ACode_last (l := [_, _, _, _, _, _, _, _, _, _, _]) mixed (by kernel_rfl) (by kernel_rfl) ?_)
                          refine AQ_q 38 _ rfl rfl rfl (QOp_move _ _ rfl rfl) ?_
                          refine AQ_q 39 _ rfl rfl rfl (QOp_move _ _ rfl rfl) ?_
                          refine AQ_call 40 _ _ _ _ _ _ _ _ _ rfl rfl rfl rfl rfl rfl rfl Try.call109 rfl rfl rfl (spec_l01Edge_ac x13 x10) ?_
                          refine AQ_q 41 _ rfl rfl rfl (QOp_move _ _ rfl rfl) ?_
                          refine AQ_q 42 _ rfl rfl rfl (QOp_move _ _ rfl rfl) ?_
                          refine AQ_q 43 _ rfl rfl rfl (QOp_move _ _ rfl rfl) ?_
                          refine AQ_q 44 _ rfl rfl rfl (QOp_xor _ _ _ _ _ _ _ rfl rfl rfl) ?_
                          obtain ⟨hc17, h⟩ := guardO h
                          refine AQ_q 45 _ rfl rfl rfl (QOp_indexAddr_vec _ _ _ _ _ _ _ _ _ rfl Try.underlying110 Try.sizeOf5 hc17.1 (by rw [bysD_length]; exact hc17.2) rfl rfl rfl) ?_
                          refine AQ_q 46 _ rfl rfl rfl (QOp_load_eptr _ _ _ _ _ _ _ rfl Try.isAgg5 rfl rfl (bysD_get _ _ 0 (by omega))) ?_
                          refine AQ_q 47 _ rfl rfl rfl (QOp_fieldAddr_ptr _ _ _ _ _ _ 2 _ _ rfl Try.underlying24 rfl _ Try.sizeOf22 rfl rfl rfl rfl) ?_
                          obtain ⟨hc18, h⟩ := guardO h
                          refine AQ_q 48 _ rfl rfl rfl (QOp_indexAddrA_ptr _ _ _ _ _ _ _ _ _ _ rfl Try.underlying22 Try.sizeOf5 hc18.1 hc18.2 rfl rfl rfl rfl) ?_
                          refine AQ_nil ?_
                          refine AOps_store1 _ _ _ _ _ _ (colD (x14.set ((spec_l01Edge x13 x10).toNat) (([0, 0, 1, 1, 2, 2, 2, 1, 0, 2, 0, 1, 0, 1, 2, 0]).getD (bXor .i64 x13 x10).toNat 0))) _ rfl rfl rfl rfl rfl rfl rfl Try.sizeOf5 (by rw [colD_length]; omega) (colD_setE x14 ((spec_l01Edge x13 x10).toNat) (([0, 0, 1, 1, 2, 2, 2, 1, 0, 2, 0, 1, 0, 1, 2, 0]).getD (bXor .i64 x13 x10).toNat 0)) ?_
                          refine AOps_nil ?_
                          refine (ACode_region ?_)
                          refine AOps_q 36 _ rfl rfl rfl (QOp_move _ _ rfl rfl) ?_
                          refine AOps_q 37 _ rfl rfl rfl (QOp_add _ _ _ _ _ _ _ rfl rfl rfl) ?_
                          refine AOps_q 7 _ rfl rfl rfl (QOp_assign _ _ rfl rfl) ?_
                          refine AOps_nil ?_
                          exact ⟨k1, _, _, Nat.lt_succ_self _, Weak_keep 0 hm [2, 4, 5, 6, 7] [0, 1, 2] _ _ rfl rfl rfl, _, _, rfl, rfl, h⟩
                        · have h := iteF hb15 h
                          refine ACode_exit ?_
                          cases h
                          exact Weak_keep 0 hm [2, 4, 5, 6] [0, 1, 2] _ _ rfl rfl rfl
                    intro E' H' hw
                    refine ACode_weak hw ?_
                    have h := hks19
                    refine (ACode_region ?_)
                    refine AOps_q 31 _ rfl rfl rfl (QOp_move _ _ rfl rfl) ?_
                    refine AOps_q 32 _ rfl rfl rfl (QOp_add _ _ _ _ _ _ _ rfl rfl rfl) ?_
                    refine AOps_q 6 _ rfl rfl rfl (QOp_assign _ _ rfl rfl) ?_
                    refine AOps_nil ?_
                    exact ⟨k0, _, _, Nat.lt_succ_self _, Weak_keep 0 hm [2, 4, 5, 6] [0, 1, 2] _ _ rfl rfl rfl, _, _, rfl, rfl, h⟩
                  · have h := iteF hb12 h
                    refine ACode_exit ?_
                    cases h
                    exact Weak_keep 0 hm [2, 5] [0, 2] _ _ rfl rfl rfl
              intro E' H' hw
              refine ACode_weak hw ?_
              have h := hks20
              refine ACode_seq (ACode_region ?_)
              refine AOps_q 49 _ rfl rfl rfl (QOp_loadN_ptr _ _ _ _ _ _ _ rfl Try.isAgg24 Try.sizeOf24 rfl rfl (colD_all _) (colD_length _)) ?_
              refine AOps_store _ _ _ _ _ _ (colD _) _ _ rfl rfl rfl rfl rfl rfl rfl (colD_one _) (by rw [colD_length]; exact Try.sizeOf24) (by rw [colD_length, colD_length]; decide) (colD_whole _ _) ?_
              refine AOps_q 3 _ rfl rfl rfl (QOp_assign _ _ rfl rfl) ?_
              refine AOps_nil ?_
              refine ACode_ret ?_
              cases h
              have h := hks21
              cases h
              exact ⟨_, _, fun r a w h => ⟨r, h⟩, _, _, [], _, (.cons (ResV_agg _ _ _ _ _ _ Try.isAgg24 Try.sizeOf24 rfl rfl (colD_take _) (colD_length _)) (.cons (ResV_tmp _ _ rfl) .nil)), rfl, rfl, rfl, rfl, rfl⟩
            · have h := iteF hb9 h
              refine ACode_skip ?_
              cases h
              exact ⟨_, rfl, Weak_keep 0 hm [2] [0] _ _ rfl rfl rfl⟩
  rintro E' H' ⟨s21, rfl, hw⟩
  refine ACode_weak hw ?_
  have h := hks21
  refine ACode_seq (ACode_region ?_)
  refine AOps_q 50 _ rfl rfl rfl (QOp_build _ _ [] [] [] _ (colD Col.zero) (colD (⟨0, 0, B136.zero⟩ : Col)) [(0, 1), (1, 1), (2, 136)] rfl rfl Try.underlying24 (zero_of Try.typeInfo24 rfl) (fun w => by simp [Try.sizeOf2, Try.sizeOf2, Try.sizeOf22]) rfl (by rfl) (by rfl) (fun _ h => nomatch h)) ?_
  refine AOps_store _ _ _ _ _ _ (colD _) _ _ rfl rfl rfl rfl rfl rfl rfl (colD_one _) (by rw [colD_length]; exact Try.sizeOf24) (by rw [colD_length, colD_length]; decide) (colD_whole _ _) ?_
  refine AOps_q 3 _ rfl rfl rfl (QOp_assign _ _ rfl rfl) ?_
  refine AOps_nil ?_
  refine ACode_ret ?_
  cases h
  exact ⟨_, _, fun r a w h => ⟨r, h⟩, _, _, [], _, (.cons (ResV_agg _ _ _ _ _ _ Try.isAgg24 Try.sizeOf24 rfl rfl (colD_take _) (colD_length _)) (.cons (ResV_tmp _ _ rfl) .nil)), rfl, rfl, rfl, rfl, rfl⟩

-- loop.example/g01362/spec.l11New
def spec_l11New (k : Nat) : Option (Desk) :=
  (spec_l01Named k (⟨#[112, 101, 110, 116, 97, 103, 111, 110]⟩)).bind fun r1 => some (⟨r1.1, r1.1⟩ : Desk)
set_option maxRecDepth 100000 in
theorem spec_l11New_ac (k : Nat) (r : Desk) (h : spec_l11New k = some r) : AC Try.prog 49 [] [] (fun res H' => res = [.d (.agg (deskD r))] ∧ H' = []) := by
  refine AC_of_body true Try.func49 rfl Try.ntmps49 (rvs := [.cell 0 26]) rfl rfl (fun G hG => ?_)
  have hm : G.H.length = 0 := by rw [hG]; rfl
  unfold spec_l11New at h
  refine ACode_seq (ACode_region ?_)
  refine AOps_alloc 0 _ _ (deskD Desk.zero) (zero_of Try.typeInfo26 rfl) (by rfl) rfl rfl rfl rfl ?_
  refine AOps_nil ?_
  refine ACode_seq (ACode_region ?_)
  obtain ⟨r1, hr1, h⟩ := bindO h
  refine AOps_call [] 4 _ _ _ _ _ _ _ _ _ _ rfl rfl rfl rfl rfl rfl rfl Try.call96 rfl (nodupB_sound _ rfl) rfl rfl rfl (spec_l01Named_ac k (⟨#[112, 101, 110, 116, 97, 103, 111, 110]⟩) _ hr1) ?_
  rintro _ _ ⟨rfl, rfl⟩
  refine ⟨(fun _ h => nomatch h), (allc (trivial) (allc (trivial) (fun _ h => nomatch h))), AOps_as 4 (v' := .tup [.d (.agg (colD r1.1)), bV r1.2]) (H' := [.box (deskD Desk.zero)]) rfl rfl ?_⟩
  refine AOps_q 3 _ rfl rfl rfl (QOp_move _ _ rfl rfl) ?_
  refine AOps_q 5 _ rfl rfl rfl (QOp_extract _ _ _ _ rfl rfl rfl) ?_
  refine AOps_q 6 _ rfl rfl rfl (QOp_extract _ _ _ _ rfl rfl rfl) ?_
  refine AOps_alloc 1 _ _ (colD Col.zero) (zero_of Try.typeInfo24 rfl) (by rfl) rfl rfl rfl rfl ?_
  refine AOps_store _ _ _ _ _ _ (colD _) _ _ rfl rfl rfl rfl rfl rfl rfl (colD_one _) (by rw [colD_length]; exact Try.sizeOf24) (by rw [colD_length, colD_length]; decide) (colD_whole _ _) ?_
  refine AOps_q 2 _ rfl rfl rfl (QOp_assign _ _ rfl rfl) ?_
  refine AOps_nil ?_
  refine ACode_seq (ACode_region ?_)
  refine AOps_q 7 _ rfl rfl rfl (QOp_loadN_ptr _ _ _ _ _ _ _ rfl Try.isAgg24 Try.sizeOf24 rfl rfl (colD_all _) (colD_length _)) ?_
  refine AOps_q 8 _ rfl rfl rfl (QOp_loadN_ptr _ _ _ _ _ _ _ rfl Try.isAgg24 Try.sizeOf24 rfl rfl (colD_all _) (colD_length _)) ?_
  refine AOps_q 9 _ rfl rfl rfl (QOp_build _ _ [_, _] [0, 1] [.agg (colD r1.1), .agg (colD r1.1)] _ (deskD Desk.zero) (deskD (⟨r1.1, r1.1⟩ : Desk)) [(0, 138), (138, 138)] rfl rfl Try.underlying26 (zero_of Try.typeInfo26 rfl) (fun w => by simp [Try.sizeOf24, Try.sizeOf24]) rfl (by rfl) (deskD_fill _ _ _) (allc (colD_cellsOK _) (allc (colD_cellsOK _) (fun _ h => nomatch h)))) ?_
  refine AOps_store _ _ _ _ _ _ (deskD _) _ _ rfl rfl rfl rfl rfl rfl rfl (deskD_one _) (by rw [deskD_length]; exact Try.sizeOf26) (by rw [deskD_length, deskD_length]; decide) (deskD_whole _ _) ?_
  refine AOps_nil ?_
  refine ACode_ret ?_
  cases h
  exact ⟨_, _, fun r a w h => ⟨r, h⟩, _, _, [], _, (.cons (ResV_agg _ _ _ _ _ _ Try.isAgg26 Try.sizeOf26 rfl rfl (deskD_take _) (deskD_length _)) .nil), rfl, rfl, rfl, rfl, rfl⟩

-- loop.example/g01362/spec.NewDesk
def spec_NewDesk (k : Nat) : Option (Desk) :=
  (spec_l11New k).bind fun r1 => some r1
set_option maxRecDepth 100000 in
theorem spec_NewDesk_ac (k : Nat) (r : Desk) (h : spec_NewDesk k = some r) : AC Try.prog 15 [] [] (fun res H' => res = [.d (.agg (deskD r))] ∧ H' = []) := by
  refine AC_of_body true Try.func15 rfl Try.ntmps15 (rvs := [.cell 0 26]) rfl rfl (fun G hG => ?_)
  have hm : G.H.length = 0 := by rw [hG]; rfl
  unfold spec_NewDesk at h
  refine ACode_seq (ACode_region ?_)
  refine AOps_alloc 0 _ _ (deskD Desk.zero) (zero_of Try.typeInfo26 rfl) (by rfl) rfl rfl rfl rfl ?_
  refine AOps_nil ?_
  refine ACode_seq (ACode_region ?_)
  obtain ⟨r1, hr1, h⟩ := bindO h
  refine AOps_call [] 1 _ _ _ _ _ _ _ _ _ _ rfl rfl rfl rfl rfl rfl rfl Try.call49 rfl (nodupB_sound _ rfl) rfl rfl rfl (spec_l11New_ac k _ hr1) ?_
  rintro _ _ ⟨rfl, rfl⟩
  refine ⟨(fun _ h => nomatch h), (allc (trivial) (fun _ h => nomatch h)), AOps_as 1 (v' := .d (.agg (deskD r1))) (H' := [.box (deskD Desk.zero)]) rfl rfl ?_⟩
  refine AOps_store _ _ _ _ _ _ (deskD _) _ _ rfl rfl rfl rfl rfl rfl rfl (deskD_one _) (by rw [deskD_length]; exact Try.sizeOf26) (by rw [deskD_length, deskD_length]; decide) (deskD_whole _ _) ?_
  refine AOps_nil ?_
  refine ACode_ret ?_
  cases h
  exact ⟨_, _, fun r a w h => ⟨r, h⟩, _, _, [], _, (.cons (ResV_agg _ _ _ _ _ _ Try.isAgg26 Try.sizeOf26 rfl rfl (deskD_take _) (deskD_length _)) .nil), rfl, rfl, rfl, rfl, rfl⟩

-- loop.example/g01362/impl.number
def impl_number (p0 : Int) (p1 : Int) : Int :=
  w64 ((w64 ((w64 ((if p0 < p1 then p1 else p0) * (w64 ((if p0 < p1 then p1 else p0) - 1)))).tdiv 2)) + (if p1 < p0 then p1 else p0))
set_option maxRecDepth 100000 in
theorem impl_number_ac (p0 : Int) (p1 : Int) : AC Try.prog 107 [iV p0, iV p1] [] (fun res H' => res = [iV (impl_number p0 p1)] ∧ H' = []) := by
  refine AC_of_body true Try.func107 rfl Try.ntmps107 (rvs := [.tmp 4]) rfl rfl (fun G hG => ?_)
  have hm : G.H.length = 0 := by rw [hG]; rfl
  obtain ⟨r, h⟩ : ∃ r, impl_number p0 p1 = r := ⟨_, rfl⟩
  rw [h]
  unfold impl_number at h
  refine ACode_seq (ACode_region ?_)
  refine AOps_q 4 _ rfl rfl rfl (QOp_assign _ _ rfl rfl) ?_
  refine AOps_nil ?_
  refine ACode_seq (ACode_region ?_)
  refine AOps_q 5 _ rfl rfl rfl (QOp_move _ _ rfl rfl) ?_
  refine AOps_q 6 _ rfl rfl rfl (QOp_move _ _ rfl rfl) ?_
  refine AOps_q 7 _ rfl rfl rfl (QOp_min _ _ _ _ _ _ rfl rfl rfl rfl rfl) ?_
  refine AOps_q 8 _ rfl rfl rfl (QOp_move _ _ rfl rfl) ?_
  refine AOps_q 9 _ rfl rfl rfl (QOp_move _ _ rfl rfl) ?_
  refine AOps_q 10 _ rfl rfl rfl (QOp_max _ _ _ _ _ _ rfl rfl rfl rfl rfl) ?_
  refine AOps_q 0 _ rfl rfl rfl (QOp_assign _ _ rfl rfl) ?_
  refine AOps_q 1 _ rfl rfl rfl (QOp_assign _ _ rfl rfl) ?_
  refine AOps_nil ?_
  refine ACode_seq (ACode_region ?_)
  refine AOps_q 11 _ rfl rfl rfl (QOp_move _ _ rfl rfl) ?_
  refine AOps_q 12 _ rfl rfl rfl (QOp_move _ _ rfl rfl) ?_
  refine AOps_q 13 _ rfl rfl rfl (QOp_sub _ _ _ _ _ _ _ rfl rfl rfl) ?_
  refine AOps_q 14 _ rfl rfl rfl (QOp_mul _ _ _ _ _ _ _ rfl rfl rfl) ?_
  refine AOps_q 15 _ rfl rfl rfl (QOp_quo _ _ _ _ _ _ _ (by decide) rfl rfl rfl) ?_
  refine AOps_q 16 _ rfl rfl rfl (QOp_move _ _ rfl rfl) ?_
  refine AOps_q 17 _ rfl rfl rfl (QOp_add _ _ _ _ _ _ _ rfl rfl rfl) ?_
  refine AOps_q 4 _ rfl rfl rfl (QOp_assign _ _ rfl rfl) ?_
  refine AOps_nil ?_
  refine ACode_ret ?_
  cases h
  exact ⟨_, _, fun r a w h => ⟨r, h⟩, _, _, [], _, (.cons (ResV_tmp _ _ rfl) .nil), rfl, rfl, rfl, rfl, rfl⟩

-- (*loop.example/g01362/impl.Colouring).put
def impl_Colouring_put (p0 : Col) (p1 : Int) (p2 : Int) (p3 : Int) : Option (Col) :=
  (if 0 ≤ (impl_number p1 p2) ∧ (impl_number p1 p2) < 136 then some (p0.set ((impl_number p1 p2).toNat) (toByte p3)) else none)
set_option maxRecDepth 100000 in
theorem impl_Colouring_put_ac (p0 : Col) (p1 : Int) (p2 : Int) (p3 : Int) (r : Col) (h : impl_Colouring_put p0 p1 p2 p3 = some r) : AC Try.prog 118 [.ptr 0 0, iV p1, iV p2, iV p3] [.box (colD p0)] (fun res H' => res = [] ∧ H' = [.box (colD r)]) := by
  refine AC_of_body true Try.func118 rfl Try.ntmps118 (rvs := []) rfl rfl (fun G hG => ?_)
  have hm : G.H.length = 1 := by rw [hG]; rfl
  unfold impl_Colouring_put at h
  refine (ACode_last (l := [_, _, _, _, _, _, _, _, _]) mixed (by kernel_rfl) (by kernel_rfl) ?_)
  refine AQ_q 8 _ rfl rfl rfl (QOp_move _ _ rfl rfl) ?_
  refine AQ_q 9 _ rfl rfl rfl (QOp_move _ _ rfl rfl) ?_
  refine AQ_q 10 _ rfl rfl rfl (QOp_move _ _ rfl rfl) ?_
  refine AQ_call 11 _ _ _ _ _ _ _ _ _ rfl rfl rfl rfl rfl rfl rfl Try.call107 rfl rfl rfl (impl_number_ac p1 p2) ?_
  refine AQ_q 12 _ rfl rfl rfl (QOp_move _ _ rfl rfl) ?_
  refine AQ_q 13 _ rfl rfl rfl (QOp_toByte _ _ _ _ _ rfl rfl Try.underlying5 rfl) ?_
  refine AQ_q 14 _ rfl rfl rfl (QOp_nilCheck_ptr _ _ _ _ rfl rfl rfl rfl) ?_
  refine AQ_q 15 _ rfl rfl rfl (QOp_fieldAddr_ptr _ _ _ _ _ _ 2 _ _ rfl Try.underlying24 rfl _ Try.sizeOf22 rfl rfl rfl rfl) ?_
  obtain ⟨hc2, h⟩ := guardO h
  refine AQ_q 16 _ rfl rfl rfl (QOp_indexAddrA_ptr _ _ _ _ _ _ _ _ _ _ rfl Try.underlying22 Try.sizeOf5 hc2.1 hc2.2 rfl rfl rfl rfl) ?_
  refine AQ_nil ?_
  refine AOps_store1 _ _ _ _ _ _ (colD (p0.set ((impl_number p1 p2).toNat) (toByte p3))) _ rfl rfl rfl rfl rfl rfl rfl Try.sizeOf5 (by rw [colD_length]; omega) (colD_setE p0 ((impl_number p1 p2).toNat) (toByte p3)) ?_
  refine AOps_nil ?_
  cases h
  exact ⟨_, _, fun r a w h => ⟨r, h⟩, _, _, [], _, .nil, rfl, rfl, rfl, rfl, rfl⟩

-- loop.example/g01362/impl.made
def impl_made_l1 (p2 : Int → Int → Option (Int)) (x1 : Int) : Nat → Int → Col → Option (Col)
  | 0, _, _ => none
  | k1 + 1, x4, x5 => (if decide (x4 < x1) then (p2 x4 x1).bind fun r7 => (impl_Colouring_put x5 x4 x1 r7).bind fun r8 => impl_made_l1 p2 x1 k1 (w64 (x4 + 1)) r8 else some x5)
def impl_made_l0 (k : Nat) (p0 : Int) (p2 : Int → Int → Option (Int)) : Nat → Int → Col → Option (Col)
  | 0, _, _ => none
  | k0 + 1, x1, x2 => (if decide (x1 < p0) then (impl_made_l1 p2 x1 k 0 x2 : Option (Col)).bind fun s9 => impl_made_l0 k p0 p2 k0 (w64 (x1 + 1)) s9 else some x2)
def impl_made (k : Nat) (p0 : Int) (p1 : Int) (p2 : Int → Int → Option (Int)) : Option (Col) :=
  (impl_made_l0 k p0 p2 k 0 (⟨p0, p1, B136.zero⟩ : Col) : Option (Col)).bind fun s10 => some s10
set_option maxRecDepth 100000 in
theorem impl_made_ac (k : Nat) (p0 : Int) (p1 : Int) (p2 : Int → Int → Option (Int)) (g_p2 : FuncId) (c_p2 : List D) (hg_p2 : ∀ args w, (callFunc g_p2 args).run Try.prog w = .ok (.enter g_p2 args) w) (hf_p2 : ∀ (a0 : Int) (a1 : Int) (r : Int), p2 a0 a1 = some r → AC Try.prog g_p2 ([iV a0, iV a1] ++ c_p2.map AV.d) [] (fun res H' => res = [iV r] ∧ H' = [])) (r : Col) (h : impl_made k p0 p1 p2 = some r) : AC Try.prog 98 [iV p0, iV p1, .d (.clo g_p2 c_p2)] [] (fun res H' => res = [.d (.agg (colD r))] ∧ H' = []) := by
  refine AC_of_body true Try.func98 rfl Try.ntmps98 (rvs := [.cell 6 24]) rfl rfl (fun G hG => ?_)
  have hm : G.H.length = 0 := by rw [hG]; rfl
  unfold impl_made at h
  refine ACode_seq (ACode_region ?_)
  refine AOps_alloc 6 _ _ (colD Col.zero) (zero_of Try.typeInfo24 rfl) (by rfl) rfl rfl rfl rfl ?_
  refine AOps_nil ?_
  refine ACode_seq (ACode_region ?_)
  refine AOps_q 10 _ rfl rfl rfl (QOp_move _ _ rfl rfl) ?_
  refine AOps_q 11 _ rfl rfl rfl (QOp_move _ _ rfl rfl) ?_
  refine AOps_q 12 _ rfl rfl rfl (QOp_build _ _ [_, _] [0, 1] [iD p0, iD p1] _ (colD Col.zero) (colD (⟨p0, p1, B136.zero⟩ : Col)) [(0, 1), (1, 1), (2, 136)] rfl rfl Try.underlying24 (zero_of Try.typeInfo24 rfl) (fun w => by simp [Try.sizeOf2, Try.sizeOf2, Try.sizeOf22]) rfl (by rfl) (by rfl) (allc (ok1 rfl) (allc (ok1 rfl) (fun _ h => nomatch h)))) ?_
  refine AOps_alloc 7 _ _ (colD Col.zero) (zero_of Try.typeInfo24 rfl) (by rfl) rfl rfl rfl rfl ?_
  refine AOps_store _ _ _ _ _ _ (colD _) _ _ rfl rfl rfl rfl rfl rfl rfl (colD_one _) (by rw [colD_length]; exact Try.sizeOf24) (by rw [colD_length, colD_length]; decide) (colD_whole _ _) ?_
  refine AOps_nil ?_
  obtain ⟨s10, hss10, hks10⟩ := bindO h
  clear h
  refine ACode_seqJ (fun E' H' => Weak 31 G E' H' [(6, .ptr 0 0), (7, .ptr 1 0)] [.box (colD Col.zero), .box (colD s10)]) ?_ ?_
  · have h := hss10
    clear hss10
    refine ACode_seq (ACode_region ?_)
    refine AOps_q 13 _ rfl rfl rfl (QOp_move _ _ rfl rfl) ?_
    refine AOps_q 14 _ rfl rfl rfl (QOp_move _ _ rfl rfl) ?_
    refine AOps_nil ?_
    refine ACode_block ?_
    refine ACode_loopW (fun k0 E H => ∃ (x1 : Int) (x2 : Col), E = [(2, .d (.clo g_p2 c_p2)), (6, .ptr 0 0), (7, .ptr 1 0), (13, iV p0), (14, iV x1)] ∧ H = [.box (colD Col.zero), .box (colD x2)] ∧ impl_made_l0 k p0 p2 k0 x1 x2 = some s10) k _ _ (Weak_keep 0 hm [2, 6, 7, 13, 14] [0, 1] _ _ rfl rfl rfl) ⟨_, _, rfl, rfl, h⟩ ?_
    clear h
    rintro k0 E H ⟨x1, x2, rfl, rfl, h⟩
    cases k0 with
    | zero => cases (show (none : Option (Col)) = some _ from h)
    | succ k0 =>
      rw [impl_made_l0] at h
      refine ACode_seq (ACode_region ?_)
      refine AOps_q 15 _ rfl rfl rfl (QOp_lss _ _ _ _ _ _ _ rfl rfl rfl) ?_
      refine AOps_nil ?_
      refine ACode_seq ?_
      refine ACode_cond _ rfl (fun hb3 => ?_) (fun hb3 => ?_)
      · have h := iteT hb3 h
        refine ACode_skip ?_
        obtain ⟨s9, hss9, hks9⟩ := bindO h
        clear h
        refine ACode_seqJ (fun E' H' => Weak 31 G E' H' [(2, .d (.clo g_p2 c_p2)), (6, .ptr 0 0), (7, .ptr 1 0), (13, iV p0), (14, iV x1)] [.box (colD Col.zero), .box (colD s9)]) ?_ ?_
        · have h := hss9
          clear hss9
          refine ACode_block ?_
          refine ACode_seq (ACode_region ?_)
          refine AOps_q 16 _ rfl rfl rfl (QOp_move _ _ rfl rfl) ?_
          refine AOps_q 8 _ rfl rfl rfl (QOp_assign _ _ rfl rfl) ?_
          refine AOps_nil ?_
          refine ACode_seq (ACode_region ?_)
          refine AOps_q 17 _ rfl rfl rfl (QOp_move _ _ rfl rfl) ?_
          refine AOps_q 18 _ rfl rfl rfl (QOp_move _ _ rfl rfl) ?_
          refine AOps_nil ?_
          refine ACode_block ?_
          refine ACode_loopW (fun k1 E H => ∃ (x4 : Int) (x5 : Col), E = [(2, .d (.clo g_p2 c_p2)), (6, .ptr 0 0), (7, .ptr 1 0), (8, iV x1), (13, iV p0), (14, iV x1), (17, iV x1), (18, iV x4)] ∧ H = [.box (colD Col.zero), .box (colD x5)] ∧ impl_made_l1 p2 x1 k1 x4 x5 = some s9) k _ _ (Weak_keep 0 hm [2, 6, 7, 8, 13, 14, 17, 18] [0, 1] _ _ rfl rfl rfl) ⟨_, _, rfl, rfl, h⟩ ?_
          clear h
          rintro k1 E H ⟨x4, x5, rfl, rfl, h⟩
          cases k1 with
          | zero => cases (show (none : Option (Col)) = some _ from h)
          | succ k1 =>
            rw [impl_made_l1] at h
            refine ACode_seq (ACode_region ?_)
            refine AOps_q 19 _ rfl rfl rfl (QOp_lss _ _ _ _ _ _ _ rfl rfl rfl) ?_
            refine AOps_nil ?_
            refine ACode_seq ?_
            refine ACode_cond _ rfl (fun hb6 => ?_) (fun hb6 => ?_)
            · have h := iteT hb6 h
              refine ACode_skip ?_
              refine ACode_seq ?_
              refine ACode_block ?_
              refine ACode_seq (ACode_region ?_)
              refine AOps_q 20 _ rfl rfl rfl (QOp_move _ _ rfl rfl) ?_
              refine AOps_q 9 _ rfl rfl rfl (QOp_assign _ _ rfl rfl) ?_
              refine AOps_nil ?_
              refine (ACode_region ?_)
              refine AOps_q 21 _ rfl rfl rfl (QOp_move _ _ rfl rfl) ?_
              refine AOps_q 22 _ rfl rfl rfl (QOp_move _ _ rfl rfl) ?_
              refine AOps_q 23 _ rfl rfl rfl (QOp_move _ _ rfl rfl) ?_
              refine AOps_q 24 _ rfl rfl rfl (QOp_move _ _ rfl rfl) ?_
              refine AOps_q 25 _ rfl rfl rfl (QOp_move _ _ rfl rfl) ?_
              obtain ⟨r7, hr7, h⟩ := bindO h
              refine AOps_call [] 26 _ _ _ _ _ _ _ _ _ _ rfl rfl rfl rfl rfl rfl rfl hg_p2 rfl (nodupB_sound _ rfl) rfl rfl (viewA_mapD _) (hf_p2 x4 x1 _ hr7) ?_
              rintro _ _ ⟨rfl, rfl⟩
              refine ⟨(fun _ h => nomatch h), (allc (trivial) (fun _ h => nomatch h)), AOps_as 26 (v' := iV r7) (H' := [.box (colD Col.zero), .box (colD x5)]) rfl rfl ?_⟩
              obtain ⟨r8, hr8, h⟩ := bindO h
              refine AOps_call [1] 27 _ _ _ _ _ _ _ _ _ _ rfl rfl rfl rfl rfl rfl rfl Try.call118 rfl (nodupB_sound _ rfl) rfl rfl rfl (impl_Colouring_put_ac x5 x4 x1 r7 _ hr8) ?_
              rintro _ _ ⟨rfl, rfl⟩
              refine ⟨(allc (fun _ _ => trivial) (fun _ h => nomatch h)), (fun _ h => nomatch h), AOps_as 27 (v' := .tup []) (H' := [.box (colD Col.zero), .box (colD r8)]) rfl rfl ?_⟩
              refine AOps_nil ?_
              refine (ACode_region ?_)
              refine AOps_q 28 _ rfl rfl rfl (QOp_add _ _ _ _ _ _ _ rfl rfl rfl) ?_
              refine AOps_q 18 _ rfl rfl rfl (QOp_move _ _ rfl rfl) ?_
              refine AOps_nil ?_
              exact ⟨k1, _, _, Nat.lt_succ_self _, Weak_keep 0 hm [2, 6, 7, 8, 13, 14, 17, 18] [0, 1] _ _ rfl rfl rfl, _, _, rfl, rfl, h⟩
            · have h := iteF hb6 h
              refine ACode_exit ?_
              cases h
              exact Weak_keep 0 hm [2, 6, 7, 13, 14] [0, 1] _ _ rfl rfl rfl
        intro E' H' hw
        refine ACode_weak hw ?_
        have h := hks9
        refine (ACode_region ?_)
        refine AOps_q 29 _ rfl rfl rfl (QOp_add _ _ _ _ _ _ _ rfl rfl rfl) ?_
        refine AOps_q 14 _ rfl rfl rfl (QOp_move _ _ rfl rfl) ?_
        refine AOps_nil ?_
        exact ⟨k0, _, _, Nat.lt_succ_self _, Weak_keep 0 hm [2, 6, 7, 13, 14] [0, 1] _ _ rfl rfl rfl, _, _, rfl, rfl, h⟩
      · have h := iteF hb3 h
        refine ACode_exit ?_
        cases h
        exact Weak_keep 0 hm [6, 7] [0, 1] _ _ rfl rfl rfl
  intro E' H' hw
  refine ACode_weak hw ?_
  have h := hks10
  refine ACode_seq (ACode_region ?_)
  refine AOps_q 30 _ rfl rfl rfl (QOp_loadN_ptr _ _ _ _ _ _ _ rfl Try.isAgg24 Try.sizeOf24 rfl rfl (colD_all _) (colD_length _)) ?_
  refine AOps_store _ _ _ _ _ _ (colD _) _ _ rfl rfl rfl rfl rfl rfl rfl (colD_one _) (by rw [colD_length]; exact Try.sizeOf24) (by rw [colD_length, colD_length]; decide) (colD_whole _ _) ?_
  refine AOps_nil ?_
  refine ACode_ret ?_
  cases h
  exact ⟨_, _, fun r a w h => ⟨r, h⟩, _, _, [], _, (.cons (ResV_agg _ _ _ _ _ _ Try.isAgg24 Try.sizeOf24 rfl rfl (colD_take _) (colD_length _)) .nil), rfl, rfl, rfl, rfl, rfl⟩

-- slices.Index[[]int64,int64]
def slices_Index_l0 (p0 : List Int) (p1 : Int) : Nat → Int → Option (Sum (Unit) (Int))
  | 0, _ => none
  | k0 + 1, x1 => (if decide (x1 < (p0.length : Int)) then (if 0 ≤ x1 ∧ x1 < (p0.length : Int) then (if decide (p1 = (p0.getD x1.toNat 0)) then some (.inr x1) else slices_Index_l0 p0 p1 k0 (w64 (x1 + 1))) else none) else some (.inl ()))
def slices_Index (k : Nat) (p0 : List Int) (p1 : Int) : Option (Int) :=
  (slices_Index_l0 p0 p1 k 0 : Option (Sum (Unit) (Int))).bind fun os5 => (match os5 with | .inl s5 => some (-1) | .inr rr => some rr)
set_option maxRecDepth 100000 in
theorem slices_Index_ac (k : Nat) (p0 : List Int) (p1 : Int) (r : Int) (h : slices_Index k p0 p1 = some r) : AC Try.prog 134 [.d (.sl none (intsD p0)), iV p1] [] (fun res H' => res = [iV r] ∧ H' = []) := by
  refine AC_of_body true Try.func134 rfl Try.ntmps134 (rvs := [.tmp 4]) rfl rfl (fun G hG => ?_)
  have hm : G.H.length = 0 := by rw [hG]; rfl
  unfold slices_Index at h
  refine ACode_seq (ACode_region ?_)
  refine AOps_q 4 _ rfl rfl rfl (QOp_assign _ _ rfl rfl) ?_
  refine AOps_nil ?_
  obtain ⟨os5, hss5, hks5⟩ := bindO h
  clear h
  refine ACode_seqJ (fun E' H' => ∃ s5 : Unit, os5 = .inl s5 ∧ Weak 19 G E' H' [] []) ?_ ?_
  · have h := hss5
    clear hss5
    refine ACode_seq (ACode_region ?_)
    refine AOps_q 6 _ rfl rfl rfl (QOp_move _ _ rfl rfl) ?_
    refine AOps_q 7 _ rfl rfl rfl (QOp_len_sl _ _ _ _ _ _ _ (intsD_length _) rfl rfl rfl rfl Try.underlying38 rfl) ?_
    refine AOps_q 8 _ rfl rfl rfl (QOp_move _ _ rfl rfl) ?_
    refine AOps_nil ?_
    refine ACode_block ?_
    refine ACode_loopW (fun k0 E H => ∃ (x1 : Int), E = [(0, .d (.sl none (intsD p0))), (1, iV p1), (7, iV (p0.length : Int)), (8, iV x1)] ∧ H = [] ∧ slices_Index_l0 p0 p1 k0 x1 = some os5) k _ _ (Weak_keep 0 hm [0, 1, 7, 8] [] _ _ rfl rfl rfl) ⟨_, rfl, rfl, h⟩ ?_
    clear h
    rintro k0 E H ⟨x1, rfl, rfl, h⟩
    cases k0 with
    | zero => cases (show (none : Option (Sum (Unit) (Int))) = some _ from h)
    | succ k0 =>
      rw [slices_Index_l0] at h
      refine ACode_seq (ACode_region ?_)
      refine AOps_q 9 _ rfl rfl rfl (QOp_lss _ _ _ _ _ _ _ rfl rfl rfl) ?_
      refine AOps_nil ?_
      refine ACode_seq ?_
      refine ACode_cond _ rfl (fun hb2 => ?_) (fun hb2 => ?_)
      · have h := iteT hb2 h
        refine ACode_skip ?_
        refine ACode_seq ?_
        refine ACode_block ?_
        refine ACode_seq (ACode_region ?_)
        refine AOps_q 10 _ rfl rfl rfl (QOp_move _ _ rfl rfl) ?_
        refine AOps_q 5 _ rfl rfl rfl (QOp_assign _ _ rfl rfl) ?_
        refine AOps_nil ?_
        refine ACode_seq (ACode_region ?_)
        refine AOps_q 11 _ rfl rfl rfl (QOp_move _ _ rfl rfl) ?_
        refine AOps_q 12 _ rfl rfl rfl (QOp_move _ _ rfl rfl) ?_
        refine AOps_q 13 _ rfl rfl rfl (QOp_move _ _ rfl rfl) ?_
        obtain ⟨hc3, h⟩ := guardO h
        refine AOps_q 14 _ rfl rfl rfl (QOp_indexAddr_sl _ _ _ _ _ _ _ _ rfl Try.underlying38 Try.sizeOf2 hc3.1 (by rw [intsD_length]; exact hc3.2) rfl rfl) ?_
        refine AOps_q 15 _ rfl rfl rfl (QOp_load_pv _ _ _ _ _ rfl Try.isAgg2 rfl (intsD_get _ _ 0 (by omega))) ?_
        refine AOps_q 16 _ rfl rfl rfl (QOp_eql _ _ _ _ _ _ _ rfl rfl rfl) ?_
        refine AOps_nil ?_
        refine ACode_cond _ rfl (fun hb4 => ?_) (fun hb4 => ?_)
        · have h := iteT hb4 h
          refine ACode_seq (ACode_region ?_)
          refine AOps_q 17 _ rfl rfl rfl (QOp_move _ _ rfl rfl) ?_
          refine AOps_q 4 _ rfl rfl rfl (QOp_assign _ _ rfl rfl) ?_
          refine AOps_nil ?_
          refine ACode_ret ?_
          cases h
          have h := hks5
          cases h
          exact ⟨_, _, fun r a w h => ⟨r, h⟩, _, _, [], _, (.cons (ResV_tmp _ _ rfl) .nil), rfl, rfl, rfl, rfl, rfl⟩
        · have h := iteF hb4 h
          refine ACode_skip ?_
          refine (ACode_region ?_)
          refine AOps_q 18 _ rfl rfl rfl (QOp_add _ _ _ _ _ _ _ rfl rfl rfl) ?_
          refine AOps_q 8 _ rfl rfl rfl (QOp_move _ _ rfl rfl) ?_
          refine AOps_nil ?_
          exact ⟨k0, _, _, Nat.lt_succ_self _, Weak_keep 0 hm [0, 1, 7, 8] [] _ _ rfl rfl rfl, _, rfl, rfl, h⟩
      · have h := iteF hb2 h
        refine ACode_exit ?_
        cases h
        exact ⟨_, rfl, Weak_keep 0 hm [] [] _ _ rfl rfl rfl⟩
  rintro E' H' ⟨s5, rfl, hw⟩
  refine ACode_weak hw ?_
  have h := hks5
  refine ACode_seq (ACode_region ?_)
  refine AOps_q 4 _ rfl rfl rfl (QOp_assign _ _ rfl rfl) ?_
  refine AOps_nil ?_
  refine ACode_ret ?_
  cases h
  exact ⟨_, _, fun r a w h => ⟨r, h⟩, _, _, [], _, (.cons (ResV_tmp _ _ rfl) .nil), rfl, rfl, rfl, rfl, rfl⟩

-- slices.Contains[[]int64,int64]
def slices_Contains (k : Nat) (p0 : List Int) (p1 : Int) : Option (Bool) :=
  (slices_Index k p0 p1).bind fun r1 => some (decide (0 ≤ r1))
set_option maxRecDepth 100000 in
theorem slices_Contains_ac (k : Nat) (p0 : List Int) (p1 : Int) (r : Bool) (h : slices_Contains k p0 p1 = some r) : AC Try.prog 126 [.d (.sl none (intsD p0)), iV p1] [] (fun res H' => res = [bV r] ∧ H' = []) := by
  refine AC_of_body true Try.func126 rfl Try.ntmps126 (rvs := [.tmp 4]) rfl rfl (fun G hG => ?_)
  have hm : G.H.length = 0 := by rw [hG]; rfl
  unfold slices_Contains at h
  refine ACode_seq (ACode_region ?_)
  refine AOps_q 4 _ rfl rfl rfl (QOp_assign _ _ rfl rfl) ?_
  refine AOps_nil ?_
  refine ACode_seq (ACode_region ?_)
  refine AOps_q 5 _ rfl rfl rfl (QOp_move _ _ rfl rfl) ?_
  refine AOps_q 6 _ rfl rfl rfl (QOp_move _ _ rfl rfl) ?_
  obtain ⟨r1, hr1, h⟩ := bindO h
  refine AOps_call [] 7 _ _ _ _ _ _ _ _ _ _ rfl rfl rfl rfl rfl rfl rfl Try.call134 rfl (nodupB_sound _ rfl) rfl rfl rfl (slices_Index_ac k p0 p1 _ hr1) ?_
  rintro _ _ ⟨rfl, rfl⟩
  refine ⟨(fun _ h => nomatch h), (allc (trivial) (fun _ h => nomatch h)), AOps_as 7 (v' := iV r1) (H' := []) rfl rfl ?_⟩
  refine AOps_q 8 _ rfl rfl rfl (QOp_geq _ _ _ _ _ _ _ rfl rfl rfl) ?_
  refine AOps_q 4 _ rfl rfl rfl (QOp_assign _ _ rfl rfl) ?_
  refine AOps_nil ?_
  refine ACode_ret ?_
  cases h
  exact ⟨_, _, fun r a w h => ⟨r, h⟩, _, _, [], _, (.cons (ResV_tmp _ _ rfl) .nil), rfl, rfl, rfl, rfl, rfl⟩

-- loop.example/g01362/impl.byDifference$1
def impl_byDifference_c1 (k : Nat) (p0 : Int) (p1 : Int) (p2 : List Int) (p3 : Int) : Option (Int) :=
  (((slices_Contains k p2 (w64 (p1 - p0))).bind fun r1 => (if r1 then some true else (slices_Contains k p2 (w64 ((w64 (p3 - p1)) + p0))).bind fun r3 => some r3) : Option (Bool)).bind fun s4 => (if s4 then some (.inr 0) else some (.inl ())) : Option (Sum (Unit) (Int))).bind fun os6 => (match os6 with | .inl s6 => some 1 | .inr rr => some rr)
set_option maxRecDepth 100000 in
theorem impl_byDifference_c1_ac (k : Nat) (p0 : Int) (p1 : Int) (p2 : List Int) (p3 : Int) (r : Int) (h : impl_byDifference_c1 k p0 p1 p2 p3 = some r) : AC Try.prog 125 [iV p0, iV p1, .d (.pv ([.sl none (intsD p2)]) 0), .d (.pv ([iD p3]) 0)] [] (fun res H' => res = [iV r] ∧ H' = []) := by
  refine AC_of_body true Try.func125 rfl Try.ntmps125 (rvs := [.tmp 6]) rfl rfl (fun G hG => ?_)
  have hm : G.H.length = 0 := by rw [hG]; rfl
  unfold impl_byDifference_c1 at h
  refine ACode_seq (ACode_region ?_)
  refine AOps_q 6 _ rfl rfl rfl (QOp_assign _ _ rfl rfl) ?_
  refine AOps_nil ?_
  obtain ⟨os6, hss6, hks6⟩ := bindO h
  clear h
  refine ACode_seqJ (fun E' H' => ∃ s6 : Unit, os6 = .inl s6 ∧ Weak 21 G E' H' [] []) ?_ ?_
  · have h := hss6
    clear hss6
    obtain ⟨s4, hss4, hks4⟩ := bindO h
    clear h
    refine ACode_seqJ (fun E' H' => Weak 21 G E' H' [(20, bV s4)] []) ?_ ?_
    · have h := hss4
      clear hss4
      refine (ACode_region ?_)
      refine AOps_q 7 _ rfl rfl rfl (QOp_load_pv _ _ _ _ _ rfl Try.isAgg38 rfl rfl) ?_
      refine AOps_q 8 _ rfl rfl rfl (QOp_move _ _ rfl rfl) ?_
      refine AOps_q 9 _ rfl rfl rfl (QOp_move _ _ rfl rfl) ?_
      refine AOps_q 10 _ rfl rfl rfl (QOp_sub _ _ _ _ _ _ _ rfl rfl rfl) ?_
      obtain ⟨r1, hr1, h⟩ := bindO h
      refine AOps_call [] 11 _ _ _ _ _ _ _ _ _ _ rfl rfl rfl rfl rfl rfl rfl Try.call126 rfl (nodupB_sound _ rfl) rfl rfl rfl (slices_Contains_ac k p2 (w64 (p1 - p0)) _ hr1) ?_
      rintro _ _ ⟨rfl, rfl⟩
      refine ⟨(fun _ h => nomatch h), (allc (trivial) (fun _ h => nomatch h)), AOps_as 11 (v' := bV r1) (H' := []) rfl rfl ?_⟩
      refine AOps_q 12 _ rfl rfl rfl (QOp_move _ _ rfl rfl) ?_
      refine AOps_case 12 _ rfl (fun hb2 => ?_) (fun hb2 => ?_)
      · have h := iteT hb2 h
        refine AOps_skip 13 rfl rfl rfl ?_
        refine AOps_skip 14 rfl rfl rfl ?_
        refine AOps_skip 15 rfl rfl rfl ?_
        refine AOps_skip 16 rfl rfl rfl ?_
        refine AOps_skip 17 rfl rfl rfl ?_
        refine AOps_skip 18 rfl rfl rfl ?_
        refine AOps_skip 19 rfl rfl rfl ?_
        refine AOps_q 20 _ rfl rfl rfl (QOp_pick_t _ _ _ _ rfl rfl rfl) ?_
        refine AOps_nil ?_
        cases h
        exact Weak_keep 0 hm [20] [] _ _ rfl rfl rfl
      · have h := iteF hb2 h
        refine AOps_q 13 _ rfl rfl rfl (QOp_load_pv _ _ _ _ _ rfl Try.isAgg38 rfl rfl) ?_
        refine AOps_q 14 _ rfl rfl rfl (QOp_load_pv _ _ _ _ _ rfl Try.isAgg2 rfl rfl) ?_
        refine AOps_q 15 _ rfl rfl rfl (QOp_move _ _ rfl rfl) ?_
        refine AOps_q 16 _ rfl rfl rfl (QOp_sub _ _ _ _ _ _ _ rfl rfl rfl) ?_
        refine AOps_q 17 _ rfl rfl rfl (QOp_move _ _ rfl rfl) ?_
        refine AOps_q 18 _ rfl rfl rfl (QOp_add _ _ _ _ _ _ _ rfl rfl rfl) ?_
        obtain ⟨r3, hr3, h⟩ := bindO h
        refine AOps_call [] 19 _ _ _ _ _ _ _ _ _ _ rfl rfl rfl rfl rfl rfl rfl Try.call126 rfl (nodupB_sound _ rfl) rfl rfl rfl (slices_Contains_ac k p2 (w64 ((w64 (p3 - p1)) + p0)) _ hr3) ?_
        rintro _ _ ⟨rfl, rfl⟩
        refine ⟨(fun _ h => nomatch h), (allc (trivial) (fun _ h => nomatch h)), AOps_as 19 (v' := bV r3) (H' := []) rfl rfl ?_⟩
        refine AOps_q 20 _ rfl rfl rfl (QOp_pick_f _ _ _ _ rfl rfl rfl) ?_
        refine AOps_nil ?_
        cases h
        exact Weak_keep 0 hm [20] [] _ _ rfl rfl rfl
    intro E' H' hw
    refine ACode_weak hw ?_
    have h := hks4
    refine ACode_cond _ rfl (fun hb5 => ?_) (fun hb5 => ?_)
    · have h := iteT hb5 h
      refine ACode_seq (ACode_region ?_)
      refine AOps_q 6 _ rfl rfl rfl (QOp_assign _ _ rfl rfl) ?_
      refine AOps_nil ?_
      refine ACode_ret ?_
      cases h
      have h := hks6
      cases h
      exact ⟨_, _, fun r a w h => ⟨r, h⟩, _, _, [], _, (.cons (ResV_tmp _ _ rfl) .nil), rfl, rfl, rfl, rfl, rfl⟩
    · have h := iteF hb5 h
      refine ACode_skip ?_
      cases h
      exact ⟨_, rfl, Weak_keep 0 hm [] [] _ _ rfl rfl rfl⟩
  rintro E' H' ⟨s6, rfl, hw⟩
  refine ACode_weak hw ?_
  have h := hks6
  refine ACode_seq (ACode_region ?_)
  refine AOps_q 6 _ rfl rfl rfl (QOp_assign _ _ rfl rfl) ?_
  refine AOps_nil ?_
  refine ACode_ret ?_
  cases h
  exact ⟨_, _, fun r a w h => ⟨r, h⟩, _, _, [], _, (.cons (ResV_tmp _ _ rfl) .nil), rfl, rfl, rfl, rfl, rfl⟩

-- loop.example/g01362/impl.byDifference
def impl_byDifference (k : Nat) (p0 : Int) (p1 : List Int) : Option (Col) :=
  (impl_made k p0 2 (fun a0 a1 => impl_byDifference_c1 k a0 a1 p1 p0)).bind fun r1 => some r1
set_option maxRecDepth 100000 in
theorem impl_byDifference_ac (k : Nat) (p0 : Int) (p1 : List Int) (r : Col) (h : impl_byDifference k p0 p1 = some r) : AC Try.prog 97 [iV p0, .d (.sl none (intsD p1))] [] (fun res H' => res = [.d (.agg (colD r))] ∧ H' = []) := by
  refine AC_of_body true Try.func97 rfl Try.ntmps97 (rvs := [.cell 4 24]) rfl rfl (fun G hG => ?_)
  have hm : G.H.length = 0 := by rw [hG]; rfl
  unfold impl_byDifference at h
  refine ACode_seq (ACode_region ?_)
  refine AOps_boxI 2 _ _ (iD p0) _ rfl (fun c hc => by cases hc with | head => rfl | tail _ h => cases h) rfl rfl rfl rfl rfl ?_
  refine AOps_boxI 3 _ _ (.sl none (intsD p1)) _ rfl (fun c hc => by cases hc with | head => rfl | tail _ h => cases h) rfl rfl rfl rfl rfl ?_
  refine AOps_alloc 4 _ _ (colD Col.zero) (zero_of Try.typeInfo24 rfl) (by rfl) rfl rfl rfl rfl ?_
  refine AOps_nil ?_
  refine ACode_seq (ACode_region ?_)
  refine AOps_q 5 _ rfl rfl rfl (QOp_load_pv _ _ _ _ _ rfl Try.isAgg2 rfl rfl) ?_
  refine AOps_q 6 _ rfl rfl rfl (QOp_makeFuncD _ _ _ _ rfl rfl rfl) ?_
  obtain ⟨r1, hr1, h⟩ := bindO h
  refine AOps_call [] 7 _ _ _ _ _ _ _ _ _ _ rfl rfl rfl rfl rfl rfl rfl Try.call98 rfl (nodupB_sound _ rfl) rfl rfl rfl (impl_made_ac k p0 2 (fun a0 a1 => impl_byDifference_c1 k a0 a1 p1 p0) 125 ([.pv ([.sl none (intsD p1)]) 0, .pv ([iD p0]) 0]) Try.call125 (fun a0 a1 r h => impl_byDifference_c1_ac k a0 a1 p1 p0 r h) _ hr1) ?_
  rintro _ _ ⟨rfl, rfl⟩
  refine ⟨(fun _ h => nomatch h), (allc (trivial) (fun _ h => nomatch h)), AOps_as 7 (v' := .d (.agg (colD r1))) (H' := [.box (colD Col.zero)]) rfl rfl ?_⟩
  refine AOps_store _ _ _ _ _ _ (colD _) _ _ rfl rfl rfl rfl rfl rfl rfl (colD_one _) (by rw [colD_length]; exact Try.sizeOf24) (by rw [colD_length, colD_length]; decide) (colD_whole _ _) ?_
  refine AOps_nil ?_
  refine ACode_ret ?_
  cases h
  exact ⟨_, _, fun r a w h => ⟨r, h⟩, _, _, [], _, (.cons (ResV_agg _ _ _ _ _ _ Try.isAgg24 Try.sizeOf24 rfl rfl (colD_take _) (colD_length _)) .nil), rfl, rfl, rfl, rfl, rfl⟩

-- loop.example/g01362/impl.named$1
def impl_named_c1 (p0 : Int) (p1 : Int) : Option (Int) :=
  (letO (if decide (bXor .i64 p0 p1 = 1) then decide (bXor .i64 p0 p1 = 1) else (if decide (bXor .i64 p0 p1 = 8) then decide (bXor .i64 p0 p1 = 8) else (if decide (bXor .i64 p0 p1 = 10) then decide (bXor .i64 p0 p1 = 10) else (if decide (bXor .i64 p0 p1 = 12) then decide (bXor .i64 p0 p1 = 12) else decide (bXor .i64 p0 p1 = 15))))) fun (s5 : Bool) => (if s5 then some (.inr 0) else letO (if decide (bXor .i64 p0 p1 = 2) then decide (bXor .i64 p0 p1 = 2) else (if decide (bXor .i64 p0 p1 = 3) then decide (bXor .i64 p0 p1 = 3) else (if decide (bXor .i64 p0 p1 = 7) then decide (bXor .i64 p0 p1 = 7) else (if decide (bXor .i64 p0 p1 = 11) then decide (bXor .i64 p0 p1 = 11) else decide (bXor .i64 p0 p1 = 13))))) fun (s11 : Bool) => (if s11 then some (.inr 1) else some (.inl ()))) : Option (Sum (Unit) (Int))).bind fun os13 => (match os13 with | .inl s13 => some 2 | .inr rr => some rr)
set_option maxRecDepth 100000 in
theorem impl_named_c1_ac (p0 : Int) (p1 : Int) (r : Int) (h : impl_named_c1 p0 p1 = some r) : AC Try.prog 99 [iV p0, iV p1] [] (fun res H' => res = [iV r] ∧ H' = []) := by
  refine AC_of_body true Try.func99 rfl Try.ntmps99 (rvs := [.tmp 4]) rfl rfl (fun G hG => ?_)
  have hm : G.H.length = 0 := by rw [hG]; rfl
  unfold impl_named_c1 at h
  refine ACode_seq (ACode_region ?_)
  refine AOps_q 4 _ rfl rfl rfl (QOp_assign _ _ rfl rfl) ?_
  refine AOps_nil ?_
  obtain ⟨os13, hss13, hks13⟩ := bindO h
  clear h
  refine ACode_seqJ (fun E' H' => ∃ s13 : Unit, os13 = .inl s13 ∧ Weak 20 G E' H' [] []) ?_ ?_
  · have h := hss13
    clear hss13
    refine ACode_seq (ACode_region ?_)
    refine AOps_q 5 _ rfl rfl rfl (QOp_move _ _ rfl rfl) ?_
    refine AOps_q 6 _ rfl rfl rfl (QOp_move _ _ rfl rfl) ?_
    refine AOps_q 7 _ rfl rfl rfl (QOp_xor _ _ _ _ _ _ _ rfl rfl rfl) ?_
    refine AOps_nil ?_
    refine ACode_block ?_
    obtain ⟨s5, hss5, hks5⟩ := letS h
    clear h
    refine ACode_seqJ (fun E' H' => Weak 20 G E' H' [(7, iV (bXor .i64 p0 p1)), (8, bV s5)] []) ?_ ?_
    · have h := hss5
      clear hss5
      refine ACode_seq (ACode_region ?_)
      refine AOps_q 9 _ rfl rfl rfl (QOp_eql _ _ _ _ _ _ _ rfl rfl rfl) ?_
      refine AOps_q 8 _ rfl rfl rfl (QOp_assign _ _ rfl rfl) ?_
      refine AOps_nil ?_
      refine ACode_cond _ rfl (fun hb1 => ?_) (fun hb1 => ?_)
      · have h := iteT hb1 h
        refine ACode_skip ?_
        cases h
        exact Weak_keep 0 hm [7, 8] [] _ _ rfl rfl rfl
      · have h := iteF hb1 h
        refine ACode_seq (ACode_region ?_)
        refine AOps_q 10 _ rfl rfl rfl (QOp_eql _ _ _ _ _ _ _ rfl rfl rfl) ?_
        refine AOps_q 8 _ rfl rfl rfl (QOp_assign _ _ rfl rfl) ?_
        refine AOps_nil ?_
        refine ACode_cond _ rfl (fun hb2 => ?_) (fun hb2 => ?_)
        · have h := iteT hb2 h
          refine ACode_skip ?_
          cases h
          exact Weak_keep 0 hm [7, 8] [] _ _ rfl rfl rfl
        · have h := iteF hb2 h
          refine ACode_seq (ACode_region ?_)
          refine AOps_q 11 _ rfl rfl rfl (QOp_eql _ _ _ _ _ _ _ rfl rfl rfl) ?_
          refine AOps_q 8 _ rfl rfl rfl (QOp_assign _ _ rfl rfl) ?_
          refine AOps_nil ?_
          refine ACode_cond _ rfl (fun hb3 => ?_) (fun hb3 => ?_)
          · have h := iteT hb3 h
            refine ACode_skip ?_
            cases h
            exact Weak_keep 0 hm [7, 8] [] _ _ rfl rfl rfl
          · have h := iteF hb3 h
            refine ACode_seq (ACode_region ?_)
            refine AOps_q 12 _ rfl rfl rfl (QOp_eql _ _ _ _ _ _ _ rfl rfl rfl) ?_
            refine AOps_q 8 _ rfl rfl rfl (QOp_assign _ _ rfl rfl) ?_
            refine AOps_nil ?_
            refine ACode_cond _ rfl (fun hb4 => ?_) (fun hb4 => ?_)
            · have h := iteT hb4 h
              refine ACode_skip ?_
              cases h
              exact Weak_keep 0 hm [7, 8] [] _ _ rfl rfl rfl
            · have h := iteF hb4 h
              refine (ACode_region ?_)
              refine AOps_q 13 _ rfl rfl rfl (QOp_eql _ _ _ _ _ _ _ rfl rfl rfl) ?_
              refine AOps_q 8 _ rfl rfl rfl (QOp_assign _ _ rfl rfl) ?_
              refine AOps_nil ?_
              cases h
              exact Weak_keep 0 hm [7, 8] [] _ _ rfl rfl rfl
    intro E' H' hw
    refine ACode_weak hw ?_
    have h := hks5
    refine ACode_cond _ rfl (fun hb6 => ?_) (fun hb6 => ?_)
    · have h := iteT hb6 h
      refine ACode_seq (ACode_region ?_)
      refine AOps_q 4 _ rfl rfl rfl (QOp_assign _ _ rfl rfl) ?_
      refine AOps_nil ?_
      refine ACode_ret ?_
      cases h
      have h := hks13
      cases h
      exact ⟨_, _, fun r a w h => ⟨r, h⟩, _, _, [], _, (.cons (ResV_tmp _ _ rfl) .nil), rfl, rfl, rfl, rfl, rfl⟩
    · have h := iteF hb6 h
      obtain ⟨s11, hss11, hks11⟩ := letS h
      clear h
      refine ACode_seqJ (fun E' H' => Weak 20 G E' H' [(14, bV s11)] []) ?_ ?_
      · have h := hss11
        clear hss11
        refine ACode_seq (ACode_region ?_)
        refine AOps_q 15 _ rfl rfl rfl (QOp_eql _ _ _ _ _ _ _ rfl rfl rfl) ?_
        refine AOps_q 14 _ rfl rfl rfl (QOp_assign _ _ rfl rfl) ?_
        refine AOps_nil ?_
        refine ACode_cond _ rfl (fun hb7 => ?_) (fun hb7 => ?_)
        · have h := iteT hb7 h
          refine ACode_skip ?_
          cases h
          exact Weak_keep 0 hm [14] [] _ _ rfl rfl rfl
        · have h := iteF hb7 h
          refine ACode_seq (ACode_region ?_)
          refine AOps_q 16 _ rfl rfl rfl (QOp_eql _ _ _ _ _ _ _ rfl rfl rfl) ?_
          refine AOps_q 14 _ rfl rfl rfl (QOp_assign _ _ rfl rfl) ?_
          refine AOps_nil ?_
          refine ACode_cond _ rfl (fun hb8 => ?_) (fun hb8 => ?_)
          · have h := iteT hb8 h
            refine ACode_skip ?_
            cases h
            exact Weak_keep 0 hm [14] [] _ _ rfl rfl rfl
          · have h := iteF hb8 h
            refine ACode_seq (ACode_region ?_)
            refine AOps_q 17 _ rfl rfl rfl (QOp_eql _ _ _ _ _ _ _ rfl rfl rfl) ?_
            refine AOps_q 14 _ rfl rfl rfl (QOp_assign _ _ rfl rfl) ?_
            refine AOps_nil ?_
            refine ACode_cond _ rfl (fun hb9 => ?_) (fun hb9 => ?_)
            · have h := iteT hb9 h
              refine ACode_skip ?_
              cases h
              exact Weak_keep 0 hm [14] [] _ _ rfl rfl rfl
            · have h := iteF hb9 h
              refine ACode_seq (ACode_region ?_)
              refine AOps_q 18 _ rfl rfl rfl (QOp_eql _ _ _ _ _ _ _ rfl rfl rfl) ?_
              refine AOps_q 14 _ rfl rfl rfl (QOp_assign _ _ rfl rfl) ?_
              refine AOps_nil ?_
              refine ACode_cond _ rfl (fun hb10 => ?_) (fun hb10 => ?_)
              · have h := iteT hb10 h
                refine ACode_skip ?_
                cases h
                exact Weak_keep 0 hm [14] [] _ _ rfl rfl rfl
              · have h := iteF hb10 h
                refine (ACode_region ?_)
                refine AOps_q 19 _ rfl rfl rfl (QOp_eql _ _ _ _ _ _ _ rfl rfl rfl) ?_
                refine AOps_q 14 _ rfl rfl rfl (QOp_assign _ _ rfl rfl) ?_
                refine AOps_nil ?_
                cases h
                exact Weak_keep 0 hm [14] [] _ _ rfl rfl rfl
      intro E' H' hw
      refine ACode_weak hw ?_
      have h := hks11
      refine ACode_cond _ rfl (fun hb12 => ?_) (fun hb12 => ?_)
      · have h := iteT hb12 h
        refine ACode_seq (ACode_region ?_)
        refine AOps_q 4 _ rfl rfl rfl (QOp_assign _ _ rfl rfl) ?_
        refine AOps_nil ?_
        refine ACode_ret ?_
        cases h
        have h := hks13
        cases h
        exact ⟨_, _, fun r a w h => ⟨r, h⟩, _, _, [], _, (.cons (ResV_tmp _ _ rfl) .nil), rfl, rfl, rfl, rfl, rfl⟩
      · have h := iteF hb12 h
        refine ACode_skip ?_
        cases h
        exact ⟨_, rfl, Weak_keep 0 hm [] [] _ _ rfl rfl rfl⟩
  rintro E' H' ⟨s13, rfl, hw⟩
  refine ACode_weak hw ?_
  have h := hks13
  refine ACode_seq (ACode_region ?_)
  refine AOps_q 4 _ rfl rfl rfl (QOp_assign _ _ rfl rfl) ?_
  refine AOps_nil ?_
  refine ACode_ret ?_
  cases h
  exact ⟨_, _, fun r a w h => ⟨r, h⟩, _, _, [], _, (.cons (ResV_tmp _ _ rfl) .nil), rfl, rfl, rfl, rfl, rfl⟩

-- loop.example/g01362/impl.named
def impl_named (k : Nat) (p0 : ByteArray) : Option (Col × Bool) :=
  (if (p0 == ⟨#[112, 101, 110, 116, 97, 103, 111, 110]⟩) then (impl_byDifference k 5 ([1])).bind fun r2 => some (r2, true) else (if (p0 == ⟨#[101, 105, 103, 104, 116]⟩) then (impl_byDifference k 8 ([1, 4])).bind fun r4 => some (r4, true) else (if (p0 == ⟨#[116, 104, 105, 114, 116, 101, 101, 110]⟩) then (impl_byDifference k 13 ([1, 5])).bind fun r6 => some (r6, true) else (if (p0 == ⟨#[115, 101, 118, 101, 110, 116, 101, 101, 110]⟩) then (impl_byDifference k 17 ([1, 2, 4, 8])).bind fun r8 => some (r8, true) else (if (p0 == ⟨#[115, 105, 120, 116, 101, 101, 110]⟩) then (impl_made k 16 3 (fun a0 a1 => impl_named_c1 a0 a1)).bind fun r10 => some (r10, true) else some ((⟨0, 0, B136.zero⟩ : Col), false))))))
set_option maxRecDepth 100000 in
theorem impl_named_ac (k : Nat) (p0 : ByteArray) (r : Col × Bool) (h : impl_named k p0 = some r) : AC Try.prog 50 [.d (.s (.string p0))] [] (fun res H' => res = [.d (.agg (colD r.1)), bV r.2] ∧ H' = []) := by
  refine AC_of_body true Try.func50 rfl Try.ntmps50 (rvs := [.cell 2 24, .tmp 3]) rfl rfl (fun G hG => ?_)
  have hm : G.H.length = 0 := by rw [hG]; rfl
  unfold impl_named at h
  refine ACode_seq (ACode_region ?_)
  refine AOps_alloc 2 _ _ (colD Col.zero) (zero_of Try.typeInfo24 rfl) (by rfl) rfl rfl rfl rfl ?_
  refine AOps_q 3 _ rfl rfl rfl (QOp_assign _ _ rfl rfl) ?_
  refine AOps_nil ?_
  refine ACode_seq ?_
  refine ACode_seq (ACode_region ?_)
  refine AOps_q 4 _ rfl rfl rfl (QOp_move _ _ rfl rfl) ?_
  refine AOps_nil ?_
  refine ACode_block ?_
  refine ACode_seq (ACode_region ?_)
  refine AOps_q 6 _ rfl rfl rfl (QOp_seq _ _ _ _ _ _ rfl rfl rfl Try.underlying9) ?_
  refine AOps_q 5 _ rfl rfl rfl (QOp_assign _ _ rfl rfl) ?_
  refine AOps_nil ?_
  refine ACode_cond _ rfl (fun hb1 => ?_) (fun hb1 => ?_)
  · have h := iteT hb1 h
    refine ACode_seq (ACode_region ?_)
    refine AOps_buildSlice 7 _ _ _ [_] (intsD ([1])) _ rfl rfl rfl rfl rfl (by decide) Try.underlying38 Try.sizeOf2 (zero_of Try.typeInfo2 rfl) rfl rfl (intsD_one _) ?_
    obtain ⟨r2, hr2, h⟩ := bindO h
    refine AOps_callL [] 8 _ _ _ _ _ _ _ _ _ _ rfl rfl rfl rfl rfl rfl rfl Try.call97 rfl (nodupB_sound _ rfl) rfl rfl rfl (impl_byDifference_ac k 5 ([1]) _ hr2) ?_
    rintro _ _ ⟨rfl, rfl⟩
    refine ⟨(fun _ h => nomatch h), (allc (flat_agg (colD_flat _)) (fun _ h => nomatch h)), AOps_as 8 (v' := .d (.agg (colD r2))) (H' := [.box (colD Col.zero), .vec 0 (intsD ([1]))]) rfl rfl ?_⟩
    refine AOps_store _ _ _ _ _ _ (colD _) _ _ rfl rfl rfl rfl rfl rfl rfl (colD_one _) (by rw [colD_length]; exact Try.sizeOf24) (by rw [colD_length, colD_length]; decide) (colD_whole _ _) ?_
    refine AOps_q 3 _ rfl rfl rfl (QOp_assign _ _ rfl rfl) ?_
    refine AOps_nil ?_
    refine ACode_ret ?_
    cases h
    exact ⟨_, _, fun r a w h => ⟨r, h⟩, _, _, [], _, (.cons (ResV_agg _ _ _ _ _ _ Try.isAgg24 Try.sizeOf24 rfl rfl (colD_take _) (colD_length _)) (.cons (ResV_tmp _ _ rfl) .nil)), rfl, rfl, rfl, rfl, rfl⟩
  · have h := iteF hb1 h
    refine ACode_seq (ACode_region ?_)
    refine AOps_q 10 _ rfl rfl rfl (QOp_seq _ _ _ _ _ _ rfl rfl rfl Try.underlying9) ?_
    refine AOps_q 9 _ rfl rfl rfl (QOp_assign _ _ rfl rfl) ?_
    refine AOps_nil ?_
    refine ACode_cond _ rfl (fun hb3 => ?_) (fun hb3 => ?_)
    · have h := iteT hb3 h
      refine ACode_seq (ACode_region ?_)
      refine AOps_buildSlice 11 _ _ _ [_, _] (intsD ([1, 4])) _ rfl rfl rfl rfl rfl (by decide) Try.underlying38 Try.sizeOf2 (zero_of Try.typeInfo2 rfl) rfl rfl (intsD_one _) ?_
      obtain ⟨r4, hr4, h⟩ := bindO h
      refine AOps_callL [] 12 _ _ _ _ _ _ _ _ _ _ rfl rfl rfl rfl rfl rfl rfl Try.call97 rfl (nodupB_sound _ rfl) rfl rfl rfl (impl_byDifference_ac k 8 ([1, 4]) _ hr4) ?_
      rintro _ _ ⟨rfl, rfl⟩
      refine ⟨(fun _ h => nomatch h), (allc (flat_agg (colD_flat _)) (fun _ h => nomatch h)), AOps_as 12 (v' := .d (.agg (colD r4))) (H' := [.box (colD Col.zero), .vec 0 (intsD ([1, 4]))]) rfl rfl ?_⟩
      refine AOps_store _ _ _ _ _ _ (colD _) _ _ rfl rfl rfl rfl rfl rfl rfl (colD_one _) (by rw [colD_length]; exact Try.sizeOf24) (by rw [colD_length, colD_length]; decide) (colD_whole _ _) ?_
      refine AOps_q 3 _ rfl rfl rfl (QOp_assign _ _ rfl rfl) ?_
      refine AOps_nil ?_
      refine ACode_ret ?_
      cases h
      exact ⟨_, _, fun r a w h => ⟨r, h⟩, _, _, [], _, (.cons (ResV_agg _ _ _ _ _ _ Try.isAgg24 Try.sizeOf24 rfl rfl (colD_take _) (colD_length _)) (.cons (ResV_tmp _ _ rfl) .nil)), rfl, rfl, rfl, rfl, rfl⟩
    · have h := iteF hb3 h
      refine ACode_seq (ACode_region ?_)
      refine AOps_q 14 _ rfl rfl rfl (QOp_seq _ _ _ _ _ _ rfl rfl rfl Try.underlying9) ?_
      refine AOps_q 13 _ rfl rfl rfl (QOp_assign _ _ rfl rfl) ?_
      refine AOps_nil ?_
      refine ACode_cond _ rfl (fun hb5 => ?_) (fun hb5 => ?_)
      · have h := iteT hb5 h
        refine ACode_seq (ACode_region ?_)
        refine AOps_buildSlice 15 _ _ _ [_, _] (intsD ([1, 5])) _ rfl rfl rfl rfl rfl (by decide) Try.underlying38 Try.sizeOf2 (zero_of Try.typeInfo2 rfl) rfl rfl (intsD_one _) ?_
        obtain ⟨r6, hr6, h⟩ := bindO h
        refine AOps_callL [] 16 _ _ _ _ _ _ _ _ _ _ rfl rfl rfl rfl rfl rfl rfl Try.call97 rfl (nodupB_sound _ rfl) rfl rfl rfl (impl_byDifference_ac k 13 ([1, 5]) _ hr6) ?_
        rintro _ _ ⟨rfl, rfl⟩
        refine ⟨(fun _ h => nomatch h), (allc (flat_agg (colD_flat _)) (fun _ h => nomatch h)), AOps_as 16 (v' := .d (.agg (colD r6))) (H' := [.box (colD Col.zero), .vec 0 (intsD ([1, 5]))]) rfl rfl ?_⟩
        refine AOps_store _ _ _ _ _ _ (colD _) _ _ rfl rfl rfl rfl rfl rfl rfl (colD_one _) (by rw [colD_length]; exact Try.sizeOf24) (by rw [colD_length, colD_length]; decide) (colD_whole _ _) ?_
        refine AOps_q 3 _ rfl rfl rfl (QOp_assign _ _ rfl rfl) ?_
        refine AOps_nil ?_
        refine ACode_ret ?_
        cases h
        exact ⟨_, _, fun r a w h => ⟨r, h⟩, _, _, [], _, (.cons (ResV_agg _ _ _ _ _ _ Try.isAgg24 Try.sizeOf24 rfl rfl (colD_take _) (colD_length _)) (.cons (ResV_tmp _ _ rfl) .nil)), rfl, rfl, rfl, rfl, rfl⟩
      · have h := iteF hb5 h
        refine ACode_seq (ACode_region ?_)
        refine AOps_q 18 _ rfl rfl rfl (QOp_seq _ _ _ _ _ _ rfl rfl rfl Try.underlying9) ?_
        refine AOps_q 17 _ rfl rfl rfl (QOp_assign _ _ rfl rfl) ?_
        refine AOps_nil ?_
        refine ACode_cond _ rfl (fun hb7 => ?_) (fun hb7 => ?_)
        · have h := iteT hb7 h
          refine ACode_seq (ACode_region ?_)
          refine AOps_buildSlice 19 _ _ _ [_, _, _, _] (intsD ([1, 2, 4, 8])) _ rfl rfl rfl rfl rfl (by decide) Try.underlying38 Try.sizeOf2 (zero_of Try.typeInfo2 rfl) rfl rfl (intsD_one _) ?_
          obtain ⟨r8, hr8, h⟩ := bindO h
          refine AOps_callL [] 20 _ _ _ _ _ _ _ _ _ _ rfl rfl rfl rfl rfl rfl rfl Try.call97 rfl (nodupB_sound _ rfl) rfl rfl rfl (impl_byDifference_ac k 17 ([1, 2, 4, 8]) _ hr8) ?_
          rintro _ _ ⟨rfl, rfl⟩
          refine ⟨(fun _ h => nomatch h), (allc (flat_agg (colD_flat _)) (fun _ h => nomatch h)), AOps_as 20 (v' := .d (.agg (colD r8))) (H' := [.box (colD Col.zero), .vec 0 (intsD ([1, 2, 4, 8]))]) rfl rfl ?_⟩
          refine AOps_store _ _ _ _ _ _ (colD _) _ _ rfl rfl rfl rfl rfl rfl rfl (colD_one _) (by rw [colD_length]; exact Try.sizeOf24) (by rw [colD_length, colD_length]; decide) (colD_whole _ _) ?_
          refine AOps_q 3 _ rfl rfl rfl (QOp_assign _ _ rfl rfl) ?_
          refine AOps_nil ?_
          refine ACode_ret ?_
          cases h
          exact ⟨_, _, fun r a w h => ⟨r, h⟩, _, _, [], _, (.cons (ResV_agg _ _ _ _ _ _ Try.isAgg24 Try.sizeOf24 rfl rfl (colD_take _) (colD_length _)) (.cons (ResV_tmp _ _ rfl) .nil)), rfl, rfl, rfl, rfl, rfl⟩
        · have h := iteF hb7 h
          refine ACode_seq (ACode_region ?_)
          refine AOps_q 22 _ rfl rfl rfl (QOp_seq _ _ _ _ _ _ rfl rfl rfl Try.underlying9) ?_
          refine AOps_q 21 _ rfl rfl rfl (QOp_assign _ _ rfl rfl) ?_
          refine AOps_nil ?_
          refine ACode_cond _ rfl (fun hb9 => ?_) (fun hb9 => ?_)
          · have h := iteT hb9 h
            refine ACode_seq (ACode_region ?_)
            obtain ⟨r10, hr10, h⟩ := bindO h
            refine AOps_call [] 23 _ _ _ _ _ _ _ _ _ _ rfl rfl rfl rfl rfl rfl rfl Try.call98 rfl (nodupB_sound _ rfl) rfl rfl rfl (impl_made_ac k 16 3 (fun a0 a1 => impl_named_c1 a0 a1) 99 ([]) Try.call99 (fun a0 a1 r h => impl_named_c1_ac a0 a1 r h) _ hr10) ?_
            rintro _ _ ⟨rfl, rfl⟩
            refine ⟨(fun _ h => nomatch h), (allc (trivial) (fun _ h => nomatch h)), AOps_as 23 (v' := .d (.agg (colD r10))) (H' := [.box (colD Col.zero)]) rfl rfl ?_⟩
            refine AOps_store _ _ _ _ _ _ (colD _) _ _ rfl rfl rfl rfl rfl rfl rfl (colD_one _) (by rw [colD_length]; exact Try.sizeOf24) (by rw [colD_length, colD_length]; decide) (colD_whole _ _) ?_
            refine AOps_q 3 _ rfl rfl rfl (QOp_assign _ _ rfl rfl) ?_
            refine AOps_nil ?_
            refine ACode_ret ?_
            cases h
            exact ⟨_, _, fun r a w h => ⟨r, h⟩, _, _, [], _, (.cons (ResV_agg _ _ _ _ _ _ Try.isAgg24 Try.sizeOf24 rfl rfl (colD_take _) (colD_length _)) (.cons (ResV_tmp _ _ rfl) .nil)), rfl, rfl, rfl, rfl, rfl⟩
          · have h := iteF hb9 h
            refine ACode_skip ?_
            refine ACode_seq (ACode_region ?_)
            refine AOps_q 24 _ rfl rfl rfl (QOp_build _ _ [] [] [] _ (colD Col.zero) (colD (⟨0, 0, B136.zero⟩ : Col)) [(0, 1), (1, 1), (2, 136)] rfl rfl Try.underlying24 (zero_of Try.typeInfo24 rfl) (fun w => by simp [Try.sizeOf2, Try.sizeOf2, Try.sizeOf22]) rfl (by rfl) (by rfl) (fun _ h => nomatch h)) ?_
            refine AOps_store _ _ _ _ _ _ (colD _) _ _ rfl rfl rfl rfl rfl rfl rfl (colD_one _) (by rw [colD_length]; exact Try.sizeOf24) (by rw [colD_length, colD_length]; decide) (colD_whole _ _) ?_
            refine AOps_q 3 _ rfl rfl rfl (QOp_assign _ _ rfl rfl) ?_
            refine AOps_nil ?_
            refine ACode_ret ?_
            cases h
            exact ⟨_, _, fun r a w h => ⟨r, h⟩, _, _, [], _, (.cons (ResV_agg _ _ _ _ _ _ Try.isAgg24 Try.sizeOf24 rfl rfl (colD_take _) (colD_length _)) (.cons (ResV_tmp _ _ rfl) .nil)), rfl, rfl, rfl, rfl, rfl⟩

-- loop.example/g01362/impl.NewDesk
def impl_NewDesk (k : Nat) : Option (Desk) :=
  (impl_named k (⟨#[112, 101, 110, 116, 97, 103, 111, 110]⟩)).bind fun r1 => some (⟨r1.1, r1.1⟩ : Desk)
set_option maxRecDepth 100000 in
theorem impl_NewDesk_ac (k : Nat) (r : Desk) (h : impl_NewDesk k = some r) : AC Try.prog 16 [] [] (fun res H' => res = [.d (.agg (deskD r))] ∧ H' = []) := by
  refine AC_of_body true Try.func16 rfl Try.ntmps16 (rvs := [.cell 0 26]) rfl rfl (fun G hG => ?_)
  have hm : G.H.length = 0 := by rw [hG]; rfl
  unfold impl_NewDesk at h
  refine ACode_seq (ACode_region ?_)
  refine AOps_alloc 0 _ _ (deskD Desk.zero) (zero_of Try.typeInfo26 rfl) (by rfl) rfl rfl rfl rfl ?_
  refine AOps_nil ?_
  refine ACode_seq (ACode_region ?_)
  obtain ⟨r1, hr1, h⟩ := bindO h
  refine AOps_call [] 4 _ _ _ _ _ _ _ _ _ _ rfl rfl rfl rfl rfl rfl rfl Try.call50 rfl (nodupB_sound _ rfl) rfl rfl rfl (impl_named_ac k (⟨#[112, 101, 110, 116, 97, 103, 111, 110]⟩) _ hr1) ?_
  rintro _ _ ⟨rfl, rfl⟩
  refine ⟨(fun _ h => nomatch h), (allc (trivial) (allc (trivial) (fun _ h => nomatch h))), AOps_as 4 (v' := .tup [.d (.agg (colD r1.1)), bV r1.2]) (H' := [.box (deskD Desk.zero)]) rfl rfl ?_⟩
  refine AOps_q 3 _ rfl rfl rfl (QOp_move _ _ rfl rfl) ?_
  refine AOps_q 5 _ rfl rfl rfl (QOp_extract _ _ _ _ rfl rfl rfl) ?_
  refine AOps_q 6 _ rfl rfl rfl (QOp_extract _ _ _ _ rfl rfl rfl) ?_
  refine AOps_alloc 1 _ _ (colD Col.zero) (zero_of Try.typeInfo24 rfl) (by rfl) rfl rfl rfl rfl ?_
  refine AOps_store _ _ _ _ _ _ (colD _) _ _ rfl rfl rfl rfl rfl rfl rfl (colD_one _) (by rw [colD_length]; exact Try.sizeOf24) (by rw [colD_length, colD_length]; decide) (colD_whole _ _) ?_
  refine AOps_q 2 _ rfl rfl rfl (QOp_assign _ _ rfl rfl) ?_
  refine AOps_nil ?_
  refine ACode_seq (ACode_region ?_)
  refine AOps_q 7 _ rfl rfl rfl (QOp_loadN_ptr _ _ _ _ _ _ _ rfl Try.isAgg24 Try.sizeOf24 rfl rfl (colD_all _) (colD_length _)) ?_
  refine AOps_q 8 _ rfl rfl rfl (QOp_loadN_ptr _ _ _ _ _ _ _ rfl Try.isAgg24 Try.sizeOf24 rfl rfl (colD_all _) (colD_length _)) ?_
  refine AOps_q 9 _ rfl rfl rfl (QOp_build _ _ [_, _] [0, 1] [.agg (colD r1.1), .agg (colD r1.1)] _ (deskD Desk.zero) (deskD (⟨r1.1, r1.1⟩ : Desk)) [(0, 138), (138, 138)] rfl rfl Try.underlying26 (zero_of Try.typeInfo26 rfl) (fun w => by simp [Try.sizeOf24, Try.sizeOf24]) rfl (by rfl) (deskD_fill _ _ _) (allc (colD_cellsOK _) (allc (colD_cellsOK _) (fun _ h => nomatch h)))) ?_
  refine AOps_store _ _ _ _ _ _ (deskD _) _ _ rfl rfl rfl rfl rfl rfl rfl (deskD_one _) (by rw [deskD_length]; exact Try.sizeOf26) (by rw [deskD_length, deskD_length]; decide) (deskD_whole _ _) ?_
  refine AOps_nil ?_
  refine ACode_ret ?_
  cases h
  exact ⟨_, _, fun r a w h => ⟨r, h⟩, _, _, [], _, (.cons (ResV_agg _ _ _ _ _ _ Try.isAgg26 Try.sizeOf26 rfl rfl (deskD_take _) (deskD_length _)) .nil), rfl, rfl, rfl, rfl, rfl⟩

-- loop.example/g01362/laws.eqByteA136
def laws_eqByteA136_l0 (p0 : B136) (p1 : B136) : Nat → Int → Option (Sum (Unit) (Bool))
  | 0, _ => none
  | k0 + 1, x1 => (if decide (x1 < 136) then (if 0 ≤ x1 ∧ x1 < 136 then (if 0 ≤ x1 ∧ x1 < 136 then (if !decide (((p0.get x1.toNat).toNat : Int) = ((p1.get x1.toNat).toNat : Int)) then some (.inr false) else laws_eqByteA136_l0 p0 p1 k0 (w64 (x1 + 1))) else none) else none) else some (.inl ()))
def laws_eqByteA136 (k : Nat) (p0 : B136) (p1 : B136) : Option (Bool) :=
  (laws_eqByteA136_l0 p0 p1 k 0 : Option (Sum (Unit) (Bool))).bind fun os6 => (match os6 with | .inl s6 => some true | .inr rr => some rr)
set_option maxRecDepth 100000 in
theorem laws_eqByteA136_ac (k : Nat) (p0 : B136) (p1 : B136) (r : Bool) (h : laws_eqByteA136 k p0 p1 = some r) : AC Try.prog 90 [.d (.agg (byD p0)), .d (.agg (byD p1))] [] (fun res H' => res = [bV r] ∧ H' = []) := by
  refine AC_of_body true Try.func90 rfl Try.ntmps90 (rvs := [.tmp 4]) rfl rfl (fun G hG => ?_)
  have hm : G.H.length = 0 := by rw [hG]; rfl
  unfold laws_eqByteA136 at h
  refine ACode_seq (ACode_region ?_)
  refine AOps_boxI 2 _ _ (.agg (byD p0)) (byD p0) rfl (byD_one _) rfl rfl rfl rfl rfl ?_
  refine AOps_boxI 3 _ _ (.agg (byD p1)) (byD p1) rfl (byD_one _) rfl rfl rfl rfl rfl ?_
  refine AOps_q 4 _ rfl rfl rfl (QOp_assign _ _ rfl rfl) ?_
  refine AOps_nil ?_
  obtain ⟨os6, hss6, hks6⟩ := bindO h
  clear h
  refine ACode_seqJ (fun E' H' => ∃ s6 : Unit, os6 = .inl s6 ∧ Weak 17 G E' H' [] []) ?_ ?_
  · have h := hss6
    clear hss6
    refine ACode_seq (ACode_region ?_)
    refine AOps_q 5 _ rfl rfl rfl (QOp_assign _ _ rfl rfl) ?_
    refine AOps_nil ?_
    refine ACode_block ?_
    refine ACode_loopW (fun k0 E H => ∃ (x1 : Int), E = [(2, .d (.pv (byD p0) 0)), (3, .d (.pv (byD p1) 0)), (5, iV x1)] ∧ H = [] ∧ laws_eqByteA136_l0 p0 p1 k0 x1 = some os6) k _ _ (Weak_keep 0 hm [2, 3, 5] [] _ _ rfl rfl rfl) ⟨_, rfl, rfl, h⟩ ?_
    clear h
    rintro k0 E H ⟨x1, rfl, rfl, h⟩
    cases k0 with
    | zero => cases (show (none : Option (Sum (Unit) (Bool))) = some _ from h)
    | succ k0 =>
      rw [laws_eqByteA136_l0] at h
      refine ACode_seq ?_
      refine ACode_seq (ACode_region ?_)
      refine AOps_q 6 _ rfl rfl rfl (QOp_move _ _ rfl rfl) ?_
      refine AOps_q 7 _ rfl rfl rfl (QOp_lss _ _ _ _ _ _ _ rfl rfl rfl) ?_
      refine AOps_nil ?_
      refine ACode_cond _ rfl (fun hb2 => ?_) (fun hb2 => ?_)
      · have h := iteT hb2 h
        refine ACode_skip ?_
        refine ACode_seq ?_
        refine ACode_block ?_
        refine ACode_seq (ACode_quiet mixed (by kernel_rfl) ?_)
        refine AQ_q 10 _ rfl rfl rfl (QOp_move _ _ rfl rfl) ?_
        obtain ⟨hc3, h⟩ := guardO h
        refine AQ_q 11 _ rfl rfl rfl (QOp_indexAddrA_pv _ _ _ _ _ _ _ _ _ rfl Try.underlying22 Try.sizeOf5 hc3.1 hc3.2 rfl rfl) ?_
        refine AQ_q 12 _ rfl rfl rfl (QOp_load_pv _ _ _ _ _ rfl Try.isAgg5 rfl (by rw [Nat.zero_add]; exact byD_get _ _ (by omega))) ?_
        refine AQ_q 13 _ rfl rfl rfl (QOp_move _ _ rfl rfl) ?_
        obtain ⟨hc4, h⟩ := guardO h
        refine AQ_q 14 _ rfl rfl rfl (QOp_indexAddrA_pv _ _ _ _ _ _ _ _ _ rfl Try.underlying22 Try.sizeOf5 hc4.1 hc4.2 rfl rfl) ?_
        refine AQ_q 15 _ rfl rfl rfl (QOp_load_pv _ _ _ _ _ rfl Try.isAgg5 rfl (by rw [Nat.zero_add]; exact byD_get _ _ (by omega))) ?_
        refine AQ_q 16 _ rfl rfl rfl (QOp_neq _ _ _ _ _ _ _ rfl rfl rfl) ?_
        refine AQ_nil ?_
        refine ACode_cond _ rfl (fun hb5 => ?_) (fun hb5 => ?_)
        · have h := iteT hb5 h
          refine ACode_seq (ACode_region ?_)
          refine AOps_q 4 _ rfl rfl rfl (QOp_assign _ _ rfl rfl) ?_
          refine AOps_nil ?_
          refine ACode_ret ?_
          cases h
          have h := hks6
          cases h
          exact ⟨_, _, fun r a w h => ⟨r, h⟩, _, _, [], _, (.cons (ResV_tmp _ _ rfl) .nil), rfl, rfl, rfl, rfl, rfl⟩
        · have h := iteF hb5 h
          refine ACode_skip ?_
          refine (ACode_region ?_)
          refine AOps_q 8 _ rfl rfl rfl (QOp_move _ _ rfl rfl) ?_
          refine AOps_q 9 _ rfl rfl rfl (QOp_add _ _ _ _ _ _ _ rfl rfl rfl) ?_
          refine AOps_q 5 _ rfl rfl rfl (QOp_assign _ _ rfl rfl) ?_
          refine AOps_nil ?_
          exact ⟨k0, _, _, Nat.lt_succ_self _, Weak_keep 0 hm [2, 3, 5] [] _ _ rfl rfl rfl, _, rfl, rfl, h⟩
      · have h := iteF hb2 h
        refine ACode_exit ?_
        cases h
        exact ⟨_, rfl, Weak_keep 0 hm [] [] _ _ rfl rfl rfl⟩
  rintro E' H' ⟨s6, rfl, hw⟩
  refine ACode_weak hw ?_
  have h := hks6
  refine ACode_seq (ACode_region ?_)
  refine AOps_q 4 _ rfl rfl rfl (QOp_assign _ _ rfl rfl) ?_
  refine AOps_nil ?_
  refine ACode_ret ?_
  cases h
  exact ⟨_, _, fun r a w h => ⟨r, h⟩, _, _, [], _, (.cons (ResV_tmp _ _ rfl) .nil), rfl, rfl, rfl, rfl, rfl⟩

-- loop.example/g01362/laws.eqColouring
def laws_eqColouring (k : Nat) (p0 : Col) (p1 : Col) : Option (Bool) :=
  (if !decide (p0.p = p1.p) then some false else (if !decide (p0.k = p1.k) then some false else (laws_eqByteA136 k p0.e p1.e).bind fun r3 => (if !r3 then some false else some true)))
set_option maxRecDepth 100000 in
theorem laws_eqColouring_ac (k : Nat) (p0 : Col) (p1 : Col) (r : Bool) (h : laws_eqColouring k p0 p1 = some r) : AC Try.prog 42 [.d (.agg (colD p0)), .d (.agg (colD p1))] [] (fun res H' => res = [bV r] ∧ H' = []) := by
  refine AC_of_body true Try.func42 rfl Try.ntmps42 (rvs := [.tmp 4]) rfl rfl (fun G hG => ?_)
  have hm : G.H.length = 0 := by rw [hG]; rfl
  unfold laws_eqColouring at h
  refine ACode_seq (ACode_region ?_)
  refine AOps_boxI 2 _ _ (.agg (colD p0)) (colD p0) rfl (colD_one _) rfl rfl rfl rfl rfl ?_
  refine AOps_boxI 3 _ _ (.agg (colD p1)) (colD p1) rfl (colD_one _) rfl rfl rfl rfl rfl ?_
  refine AOps_q 4 _ rfl rfl rfl (QOp_assign _ _ rfl rfl) ?_
  refine AOps_nil ?_
  refine ACode_seq ?_
  refine ACode_seq (ACode_region ?_)
  refine AOps_q 5 _ rfl rfl rfl (QOp_fieldAddr_pv _ _ _ _ _ 0 _ _ rfl Try.underlying24 rfl _ Try.sizeOf2 rfl rfl) ?_
  refine AOps_q 6 _ rfl rfl rfl (QOp_load_pv _ _ _ _ _ rfl Try.isAgg2 rfl rfl) ?_
  refine AOps_q 7 _ rfl rfl rfl (QOp_fieldAddr_pv _ _ _ _ _ 0 _ _ rfl Try.underlying24 rfl _ Try.sizeOf2 rfl rfl) ?_
  refine AOps_q 8 _ rfl rfl rfl (QOp_load_pv _ _ _ _ _ rfl Try.isAgg2 rfl rfl) ?_
  refine AOps_q 9 _ rfl rfl rfl (QOp_neq _ _ _ _ _ _ _ rfl rfl rfl) ?_
  refine AOps_nil ?_
  refine ACode_cond _ rfl (fun hb1 => ?_) (fun hb1 => ?_)
  · have h := iteT hb1 h
    refine ACode_seq (ACode_region ?_)
    refine AOps_q 4 _ rfl rfl rfl (QOp_assign _ _ rfl rfl) ?_
    refine AOps_nil ?_
    refine ACode_ret ?_
    cases h
    exact ⟨_, _, fun r a w h => ⟨r, h⟩, _, _, [], _, (.cons (ResV_tmp _ _ rfl) .nil), rfl, rfl, rfl, rfl, rfl⟩
  · have h := iteF hb1 h
    refine ACode_skip ?_
    refine ACode_seq ?_
    refine ACode_seq (ACode_region ?_)
    refine AOps_q 10 _ rfl rfl rfl (QOp_fieldAddr_pv _ _ _ _ _ 1 _ _ rfl Try.underlying24 rfl _ Try.sizeOf2 rfl rfl) ?_
    refine AOps_q 11 _ rfl rfl rfl (QOp_load_pv _ _ _ _ _ rfl Try.isAgg2 rfl rfl) ?_
    refine AOps_q 12 _ rfl rfl rfl (QOp_fieldAddr_pv _ _ _ _ _ 1 _ _ rfl Try.underlying24 rfl _ Try.sizeOf2 rfl rfl) ?_
    refine AOps_q 13 _ rfl rfl rfl (QOp_load_pv _ _ _ _ _ rfl Try.isAgg2 rfl rfl) ?_
    refine AOps_q 14 _ rfl rfl rfl (QOp_neq _ _ _ _ _ _ _ rfl rfl rfl) ?_
    refine AOps_nil ?_
    refine ACode_cond _ rfl (fun hb2 => ?_) (fun hb2 => ?_)
    · have h := iteT hb2 h
      refine ACode_seq (ACode_region ?_)
      refine AOps_q 4 _ rfl rfl rfl (QOp_assign _ _ rfl rfl) ?_
      refine AOps_nil ?_
      refine ACode_ret ?_
      cases h
      exact ⟨_, _, fun r a w h => ⟨r, h⟩, _, _, [], _, (.cons (ResV_tmp _ _ rfl) .nil), rfl, rfl, rfl, rfl, rfl⟩
    · have h := iteF hb2 h
      refine ACode_skip ?_
      refine ACode_seq ?_
      refine ACode_seq (ACode_region ?_)
      refine AOps_q 15 _ rfl rfl rfl (QOp_fieldAddr_pv _ _ _ _ _ 2 _ _ rfl Try.underlying24 rfl _ Try.sizeOf22 rfl rfl) ?_
      refine AOps_q 16 _ rfl rfl rfl (QOp_loadN_pv _ _ _ _ _ _ rfl Try.isAgg22 Try.sizeOf22 rfl (colD_edges _) (byD_length _)) ?_
      refine AOps_q 17 _ rfl rfl rfl (QOp_fieldAddr_pv _ _ _ _ _ 2 _ _ rfl Try.underlying24 rfl _ Try.sizeOf22 rfl rfl) ?_
      refine AOps_q 18 _ rfl rfl rfl (QOp_loadN_pv _ _ _ _ _ _ rfl Try.isAgg22 Try.sizeOf22 rfl (colD_edges _) (byD_length _)) ?_
      obtain ⟨r3, hr3, h⟩ := bindO h
      refine AOps_call [] 19 _ _ _ _ _ _ _ _ _ _ rfl rfl rfl rfl rfl rfl rfl Try.call90 rfl (nodupB_sound _ rfl) rfl rfl rfl (laws_eqByteA136_ac k p0.e p1.e _ hr3) ?_
      rintro _ _ ⟨rfl, rfl⟩
      refine ⟨(fun _ h => nomatch h), (allc (trivial) (fun _ h => nomatch h)), AOps_as 19 (v' := bV r3) (H' := []) rfl rfl ?_⟩
      refine AOps_q 20 _ rfl rfl rfl (QOp_not _ _ _ rfl rfl) ?_
      refine AOps_nil ?_
      refine ACode_cond _ rfl (fun hb4 => ?_) (fun hb4 => ?_)
      · have h := iteT hb4 h
        refine ACode_seq (ACode_region ?_)
        refine AOps_q 4 _ rfl rfl rfl (QOp_assign _ _ rfl rfl) ?_
        refine AOps_nil ?_
        refine ACode_ret ?_
        cases h
        exact ⟨_, _, fun r a w h => ⟨r, h⟩, _, _, [], _, (.cons (ResV_tmp _ _ rfl) .nil), rfl, rfl, rfl, rfl, rfl⟩
      · have h := iteF hb4 h
        refine ACode_skip ?_
        refine ACode_seq (ACode_region ?_)
        refine AOps_q 4 _ rfl rfl rfl (QOp_assign _ _ rfl rfl) ?_
        refine AOps_nil ?_
        refine ACode_ret ?_
        cases h
        exact ⟨_, _, fun r a w h => ⟨r, h⟩, _, _, [], _, (.cons (ResV_tmp _ _ rfl) .nil), rfl, rfl, rfl, rfl, rfl⟩

-- loop.example/g01362/laws.eqDesk
def laws_eqDesk (k : Nat) (p0 : Desk) (p1 : Desk) : Option (Bool) :=
  (laws_eqColouring k p0.f p1.f).bind fun r1 => (if !r1 then some false else (laws_eqColouring k p0.s p1.s).bind fun r3 => (if !r3 then some false else some true))
set_option maxRecDepth 100000 in
theorem laws_eqDesk_ac (k : Nat) (p0 : Desk) (p1 : Desk) (r : Bool) (h : laws_eqDesk k p0 p1 = some r) : AC Try.prog 17 [.d (.agg (deskD p0)), .d (.agg (deskD p1))] [] (fun res H' => res = [bV r] ∧ H' = []) := by
  refine AC_of_body true Try.func17 rfl Try.ntmps17 (rvs := [.tmp 4]) rfl rfl (fun G hG => ?_)
  have hm : G.H.length = 0 := by rw [hG]; rfl
  unfold laws_eqDesk at h
  refine ACode_seq (ACode_region ?_)
  refine AOps_boxI 2 _ _ (.agg (deskD p0)) (deskD p0) rfl (deskD_one _) rfl rfl rfl rfl rfl ?_
  refine AOps_boxI 3 _ _ (.agg (deskD p1)) (deskD p1) rfl (deskD_one _) rfl rfl rfl rfl rfl ?_
  refine AOps_q 4 _ rfl rfl rfl (QOp_assign _ _ rfl rfl) ?_
  refine AOps_nil ?_
  refine ACode_seq ?_
  refine ACode_seq (ACode_region ?_)
  refine AOps_q 5 _ rfl rfl rfl (QOp_fieldAddr_pv _ _ _ _ _ 0 _ _ rfl Try.underlying26 rfl _ Try.sizeOf24 rfl rfl) ?_
  refine AOps_q 6 _ rfl rfl rfl (QOp_loadN_pv _ _ _ _ _ _ rfl Try.isAgg24 Try.sizeOf24 rfl (deskD_f _) (colD_length _)) ?_
  refine AOps_q 7 _ rfl rfl rfl (QOp_fieldAddr_pv _ _ _ _ _ 0 _ _ rfl Try.underlying26 rfl _ Try.sizeOf24 rfl rfl) ?_
  refine AOps_q 8 _ rfl rfl rfl (QOp_loadN_pv _ _ _ _ _ _ rfl Try.isAgg24 Try.sizeOf24 rfl (deskD_f _) (colD_length _)) ?_
  obtain ⟨r1, hr1, h⟩ := bindO h
  refine AOps_call [] 9 _ _ _ _ _ _ _ _ _ _ rfl rfl rfl rfl rfl rfl rfl Try.call42 rfl (nodupB_sound _ rfl) rfl rfl rfl (laws_eqColouring_ac k p0.f p1.f _ hr1) ?_
  rintro _ _ ⟨rfl, rfl⟩
  refine ⟨(fun _ h => nomatch h), (allc (trivial) (fun _ h => nomatch h)), AOps_as 9 (v' := bV r1) (H' := []) rfl rfl ?_⟩
  refine AOps_q 10 _ rfl rfl rfl (QOp_not _ _ _ rfl rfl) ?_
  refine AOps_nil ?_
  refine ACode_cond _ rfl (fun hb2 => ?_) (fun hb2 => ?_)
  · have h := iteT hb2 h
    refine ACode_seq (ACode_region ?_)
    refine AOps_q 4 _ rfl rfl rfl (QOp_assign _ _ rfl rfl) ?_
    refine AOps_nil ?_
    refine ACode_ret ?_
    cases h
    exact ⟨_, _, fun r a w h => ⟨r, h⟩, _, _, [], _, (.cons (ResV_tmp _ _ rfl) .nil), rfl, rfl, rfl, rfl, rfl⟩
  · have h := iteF hb2 h
    refine ACode_skip ?_
    refine ACode_seq ?_
    refine ACode_seq (ACode_region ?_)
    refine AOps_q 11 _ rfl rfl rfl (QOp_fieldAddr_pv _ _ _ _ _ 138 _ _ rfl Try.underlying26 rfl _ Try.sizeOf24 rfl rfl) ?_
    refine AOps_q 12 _ rfl rfl rfl (QOp_loadN_pv _ _ _ _ _ _ rfl Try.isAgg24 Try.sizeOf24 rfl (deskD_s _) (colD_length _)) ?_
    refine AOps_q 13 _ rfl rfl rfl (QOp_fieldAddr_pv _ _ _ _ _ 138 _ _ rfl Try.underlying26 rfl _ Try.sizeOf24 rfl rfl) ?_
    refine AOps_q 14 _ rfl rfl rfl (QOp_loadN_pv _ _ _ _ _ _ rfl Try.isAgg24 Try.sizeOf24 rfl (deskD_s _) (colD_length _)) ?_
    obtain ⟨r3, hr3, h⟩ := bindO h
    refine AOps_call [] 15 _ _ _ _ _ _ _ _ _ _ rfl rfl rfl rfl rfl rfl rfl Try.call42 rfl (nodupB_sound _ rfl) rfl rfl rfl (laws_eqColouring_ac k p0.s p1.s _ hr3) ?_
    rintro _ _ ⟨rfl, rfl⟩
    refine ⟨(fun _ h => nomatch h), (allc (trivial) (fun _ h => nomatch h)), AOps_as 15 (v' := bV r3) (H' := []) rfl rfl ?_⟩
    refine AOps_q 16 _ rfl rfl rfl (QOp_not _ _ _ rfl rfl) ?_
    refine AOps_nil ?_
    refine ACode_cond _ rfl (fun hb4 => ?_) (fun hb4 => ?_)
    · have h := iteT hb4 h
      refine ACode_seq (ACode_region ?_)
      refine AOps_q 4 _ rfl rfl rfl (QOp_assign _ _ rfl rfl) ?_
      refine AOps_nil ?_
      refine ACode_ret ?_
      cases h
      exact ⟨_, _, fun r a w h => ⟨r, h⟩, _, _, [], _, (.cons (ResV_tmp _ _ rfl) .nil), rfl, rfl, rfl, rfl, rfl⟩
    · have h := iteF hb4 h
      refine ACode_skip ?_
      refine ACode_seq (ACode_region ?_)
      refine AOps_q 4 _ rfl rfl rfl (QOp_assign _ _ rfl rfl) ?_
      refine AOps_nil ?_
      refine ACode_ret ?_
      cases h
      exact ⟨_, _, fun r a w h => ⟨r, h⟩, _, _, [], _, (.cons (ResV_tmp _ _ rfl) .nil), rfl, rfl, rfl, rfl, rfl⟩

-- loop.example/g01362/laws.FnExactNewDesk
def laws_FnExactNewDesk (k : Nat) : Option (Bool) :=
  (spec_NewDesk k).bind fun r1 => (impl_NewDesk k).bind fun r2 => (laws_eqDesk k r2 r1).bind fun r3 => (if !r3 then some false else some true)
set_option maxRecDepth 100000 in
theorem laws_FnExactNewDesk_ac (k : Nat) (r : Bool) (h : laws_FnExactNewDesk k = some r) : AC Try.prog 3 [] [] (fun res H' => res = [bV r] ∧ H' = []) := by
  refine AC_of_body true Try.func3 rfl Try.ntmps3 (rvs := [.tmp 0]) rfl rfl (fun G hG => ?_)
  have hm : G.H.length = 0 := by rw [hG]; rfl
  unfold laws_FnExactNewDesk at h
  refine ACode_seq (ACode_region ?_)
  refine AOps_q 0 _ rfl rfl rfl (QOp_assign _ _ rfl rfl) ?_
  refine AOps_nil ?_
  refine ACode_seq (ACode_region ?_)
  obtain ⟨r1, hr1, h⟩ := bindO h
  refine AOps_call [] 3 _ _ _ _ _ _ _ _ _ _ rfl rfl rfl rfl rfl rfl rfl Try.call15 rfl (nodupB_sound _ rfl) rfl rfl rfl (spec_NewDesk_ac k _ hr1) ?_
  rintro _ _ ⟨rfl, rfl⟩
  refine ⟨(fun _ h => nomatch h), (allc (trivial) (fun _ h => nomatch h)), AOps_as 3 (v' := .d (.agg (deskD r1))) (H' := []) rfl rfl ?_⟩
  refine AOps_alloc 1 _ _ (deskD Desk.zero) (zero_of Try.typeInfo26 rfl) (by rfl) rfl rfl rfl rfl ?_
  refine AOps_store _ _ _ _ _ _ (deskD _) _ _ rfl rfl rfl rfl rfl rfl rfl (deskD_one _) (by rw [deskD_length]; exact Try.sizeOf26) (by rw [deskD_length, deskD_length]; decide) (deskD_whole _ _) ?_
  refine AOps_nil ?_
  refine ACode_seq (ACode_region ?_)
  obtain ⟨r2, hr2, h⟩ := bindO h
  refine AOps_call [] 4 _ _ _ _ _ _ _ _ _ _ rfl rfl rfl rfl rfl rfl rfl Try.call16 rfl (nodupB_sound _ rfl) rfl rfl rfl (impl_NewDesk_ac k _ hr2) ?_
  rintro _ _ ⟨rfl, rfl⟩
  refine ⟨(fun _ h => nomatch h), (allc (trivial) (fun _ h => nomatch h)), AOps_as 4 (v' := .d (.agg (deskD r2))) (H' := [.box (deskD r1)]) rfl rfl ?_⟩
  refine AOps_alloc 2 _ _ (deskD Desk.zero) (zero_of Try.typeInfo26 rfl) (by rfl) rfl rfl rfl rfl ?_
  refine AOps_store _ _ _ _ _ _ (deskD _) _ _ rfl rfl rfl rfl rfl rfl rfl (deskD_one _) (by rw [deskD_length]; exact Try.sizeOf26) (by rw [deskD_length, deskD_length]; decide) (deskD_whole _ _) ?_
  refine AOps_nil ?_
  refine ACode_seq ?_
  refine ACode_seq (ACode_region ?_)
  refine AOps_q 5 _ rfl rfl rfl (QOp_loadN_ptr _ _ _ _ _ _ _ rfl Try.isAgg26 Try.sizeOf26 rfl rfl (deskD_all _) (deskD_length _)) ?_
  refine AOps_q 6 _ rfl rfl rfl (QOp_loadN_ptr _ _ _ _ _ _ _ rfl Try.isAgg26 Try.sizeOf26 rfl rfl (deskD_all _) (deskD_length _)) ?_
  obtain ⟨r3, hr3, h⟩ := bindO h
  refine AOps_call [] 7 _ _ _ _ _ _ _ _ _ _ rfl rfl rfl rfl rfl rfl rfl Try.call17 rfl (nodupB_sound _ rfl) rfl rfl rfl (laws_eqDesk_ac k r2 r1 _ hr3) ?_
  rintro _ _ ⟨rfl, rfl⟩
  refine ⟨(fun _ h => nomatch h), (allc (trivial) (fun _ h => nomatch h)), AOps_as 7 (v' := bV r3) (H' := [.box (deskD r1), .box (deskD r2)]) rfl rfl ?_⟩
  refine AOps_q 8 _ rfl rfl rfl (QOp_not _ _ _ rfl rfl) ?_
  refine AOps_nil ?_
  refine ACode_cond _ rfl (fun hb4 => ?_) (fun hb4 => ?_)
  · have h := iteT hb4 h
    refine ACode_seq (ACode_region ?_)
    refine AOps_q 0 _ rfl rfl rfl (QOp_assign _ _ rfl rfl) ?_
    refine AOps_nil ?_
    refine ACode_ret ?_
    cases h
    exact ⟨_, _, fun r a w h => ⟨r, h⟩, _, _, [], _, (.cons (ResV_tmp _ _ rfl) .nil), rfl, rfl, rfl, rfl, rfl⟩
  · have h := iteF hb4 h
    refine ACode_skip ?_
    refine ACode_seq (ACode_region ?_)
    refine AOps_q 0 _ rfl rfl rfl (QOp_assign _ _ rfl rfl) ?_
    refine AOps_nil ?_
    refine ACode_ret ?_
    cases h
    exact ⟨_, _, fun r a w h => ⟨r, h⟩, _, _, [], _, (.cons (ResV_tmp _ _ rfl) .nil), rfl, rfl, rfl, rfl, rfl⟩

end Go.Proofs.Ytjkanhdklfgghaa
