/- That the walk over a colour's components hands back rows of its own making. (Printed by the own tool gen.py, FRAGWALK.) No conditions. -/
import Derived.Test.YtmmiokljmfkoiaaAb21
import Derived.Test.YtmmiokljmfkoiaaGen14
set_option linter.unusedVariables false
set_option linter.unusedSimpArgs false
namespace Go.Proofs.Ytmmiokljmfkoiaa
open Go Go.RowKit Ab

set_option maxRecDepth 100000 in
theorem impl_Colouring_walk_acm (k : Nat) (p0 : Col) (p1 : Int) (r : List (List Int) × List Int) (h : impl_Colouring_walk k p0 p1 = some r) :
    ACM Try.prog 30 [.d (.pv (colD p0) 0), iV p1] (fun res H' M' => ∃ hd, res = [.vec 0 0, .vec 1 0] ∧ H' = [.vec 0 (hdD hd), .vec 0 (intsD r.2)] ∧ (hd.map (·.1)).Nodup ∧ TabF r.1 hd M') := by
  refine ACM_of_body true Try.func30 rfl Try.ntmps30 (rvs := [.tmp 4, .tmp 5]) rfl rfl (fun G hG hF => ?_)
  have hm : G.H.length = 0 := by rw [hG]; rfl
  have hz : zeroG G.H = true := by rw [hG]; rfl
  unfold impl_Colouring_walk at h
  obtain ⟨r1, hr1, h⟩ := bindO h
  refine MC_seq (MC_lift fun G' hn => ACode_region ?_)
  refine AOps_q 4 _ rfl rfl rfl (QOp_assign _ _ rfl rfl) ?_
  refine AOps_q 5 _ rfl rfl rfl (QOp_assign _ _ rfl rfl) ?_
  refine AOps_nil ?_
  refine MC_seq (MC_lift fun G' hn => ACode_region ?_)
  refine AOps_buildSlice 13 _ _ _ [_] (intsD ([(-1)])) _ rfl rfl rfl rfl rfl (by decide) Try.underlying40 Try.sizeOf2 (zero_of Try.typeInfo2 rfl) rfl rfl (intsD_one _) ?_
  refine AOps_q 14 _ rfl rfl rfl (QOp_move _ _ rfl rfl) ?_
  refine AOps_q 15 _ rfl rfl rfl (QOp_nilCheck_pv _ _ _ rfl rfl) ?_
  refine AOps_q 16 _ rfl rfl rfl (QOp_fieldAddr_pv _ _ _ _ _ 0 _ _ rfl Try.underlying28 rfl _ Try.sizeOf2 rfl rfl) ?_
  refine AOps_q 17 _ rfl rfl rfl (QOp_load_pv _ _ _ _ _ rfl Try.isAgg2 rfl rfl) ?_
  refine AOps_callL [] 18 _ _ _ _ _ _ _ _ _ _ rfl rfl rfl rfl rfl rfl rfl Try.call65 rfl (nodupB_sound _ rfl) rfl rfl rfl (slices_Repeat_ac k ([(-1)]) p0.p _ hr1) ?_
  rintro _ _ ⟨rfl, rfl⟩
  refine ⟨(allc (intsD_flat _) (fun _ h => nomatch h)), (allc (trivial) (fun _ h => nomatch h)), AOps_as 18 (v' := .vec 1 0) (H' := [.vec 0 (intsD ([(-1)])), .vec 0 (intsD r1)]) rfl rfl ?_⟩
  refine AOps_buildSlice 19 _ _ _ [] (hdD []) _ rfl rfl rfl rfl rfl (by decide) Try.underlying25 Try.sizeOf40 (zero_of Try.typeInfo40 rfl) rfl rfl (hdD_one _) ?_
  refine AOps_q 6 _ rfl rfl rfl (QOp_assign _ _ rfl rfl) ?_
  refine AOps_q 7 _ rfl rfl rfl (QOp_assign _ _ rfl rfl) ?_
  refine AOps_nil ?_
  obtain ⟨s32, hss32, hks32⟩ := bindO h
  clear h
  refine MC_seqJ (fun E' H' M' => ∃ hd, Weak 85 (GM G M') E' H' [(6, .vec 0 0), (7, .vec 1 0)] [.vec 0 (intsD s32.1), .vec 0 (hdD hd)] ∧ (hd.map (·.1)).Nodup ∧ TabF s32.2 hd M') ?_ ?_
  · refine MC_seq (MC_lift fun G' hn => ACode_region ?_)
    refine AOps_q 20 _ rfl rfl rfl (QOp_move _ _ rfl rfl) ?_
    refine AOps_q 21 _ rfl rfl rfl (QOp_nilCheck_pv _ _ _ rfl rfl) ?_
    refine AOps_q 22 _ rfl rfl rfl (QOp_fieldAddr_pv _ _ _ _ _ 0 _ _ rfl Try.underlying28 rfl _ Try.sizeOf2 rfl rfl) ?_
    refine AOps_q 23 _ rfl rfl rfl (QOp_load_pv _ _ _ _ _ rfl Try.isAgg2 rfl rfl) ?_
    refine AOps_q 24 _ rfl rfl rfl (QOp_move _ _ rfl rfl) ?_
    refine AOps_nil ?_
    refine MC_weak (E0 := [(0, .d (.pv (colD p0) 0)), (1, iV p1), (6, .vec 0 0), (7, .vec 1 0), (23, iV p0.p), (24, iV 0)]) (H0 := [.vec 0 (intsD r1), .vec 0 (hdD [])]) (Weak_keep (G := GM G _) 0 hm [0, 1, 6, 7, 23, 24] [1, 2] _ _ rfl rfl rfl) ?_
    refine MC_block (MC_loop (fun kk E H M => ∃ (x2 : Int) (x3 : List Int) (x4 : List (List Int)) (hd : List (Nat × Nat × Nat)), E = [(0, .d (.pv (colD p0) 0)), (1, iV p1), (6, .vec 0 0), (7, .vec 1 0), (23, iV p0.p), (24, iV x2)] ∧ H = [.vec 0 (intsD x3), .vec 0 (hdD hd)] ∧ (hd.map (·.1)).Nodup ∧ TabF x4 hd M ∧ impl_Colouring_walk_l0 k p0 p1 kk x2 x3 x4 = some s32) k ⟨_, _, _, [], rfl, rfl, by simp, ⟨rfl, by simp⟩, hss32⟩ ?_)
    rintro kk E H M ⟨x2, x3, x4, hd, rfl, rfl, hnd, hT, h⟩
    cases kk with
    | zero => cases (show (none : Option (List Int × List (List Int))) = some _ from h)
    | succ kk =>
      rw [impl_Colouring_walk_l0] at h
      refine MC_seq (MC_lift fun G' hn => ACode_region ?_)
      refine AOps_q 25 _ rfl rfl rfl (QOp_lss _ _ _ _ _ _ _ rfl rfl rfl) ?_
      refine AOps_nil ?_
      refine MC_seq (MC_cond _ rfl (fun hb => ?_) (fun hb => ?_))
      · have h := iteT hb h
        refine MC_skip ?_
        obtain ⟨s31, hss31, hks31⟩ := bindO h
        clear h
        refine MC_seqJ (fun E' H' M' => ∃ hd', Weak 85 (GM G M') E' H' [(0, .d (.pv (colD p0) 0)), (1, iV p1), (6, .vec 0 0), (7, .vec 1 0), (23, iV p0.p), (24, iV x2)] [.vec 0 (intsD s31.1), .vec 0 (hdD hd')] ∧ (hd'.map (·.1)).Nodup ∧ TabF s31.2 hd' M') ?_ ?_
        · have h := hss31
          refine MC_block (MC_seq (MC_lift fun G' hn => ACode_region ?_))
          refine AOps_q 26 _ rfl rfl rfl (QOp_move _ _ rfl rfl) ?_
          refine AOps_q 8 _ rfl rfl rfl (QOp_assign _ _ rfl rfl) ?_
          refine AOps_nil ?_
          obtain ⟨hc6, h⟩ := guardO h
          refine MC_seq (MC_seq (MC_lift fun G' hn => ACode_region ?_))
          refine AOps_q 27 _ rfl rfl rfl (QOp_move _ _ rfl rfl) ?_
          refine AOps_q 28 _ rfl rfl rfl (QOp_move _ _ rfl rfl) ?_
          refine AOps_q 29 _ rfl rfl rfl (QOp_indexAddr_vec _ _ _ _ _ _ _ _ _ rfl Try.underlying40 Try.sizeOf2 hc6.1 (by rw [intsD_length]; exact hc6.2) rfl rfl rfl) ?_
          refine AOps_q 30 _ rfl rfl rfl (QOp_load_eptr _ _ _ _ _ _ _ rfl Try.isAgg2 rfl rfl (intsD_get _ _ 0 (by omega))) ?_
          refine AOps_q 31 _ rfl rfl rfl (QOp_geq _ _ _ _ _ _ _ rfl rfl rfl) ?_
          refine AOps_nil ?_
          refine MC_cond _ rfl (fun hb7 => ?_) (fun hb7 => ?_)
          · have h := iteT hb7 h
            refine MC_exit ?_
            cases h
            exact ⟨hd, Weak_keep (G := GM G _) 0 hm [0, 1, 6, 7, 23, 24] [0, 1] _ _ rfl rfl rfl, hnd, hT⟩
          · have h := iteF hb7 h
            refine MC_skip ?_
            obtain ⟨hc8, h⟩ := guardO h
            refine MC_seq (MC_lift fun G' hn => ACode_region ?_)
            refine AOps_q 32 _ rfl rfl rfl (QOp_move _ _ rfl rfl) ?_
            refine AOps_q 33 _ rfl rfl rfl (QOp_move _ _ rfl rfl) ?_
            refine AOps_q 34 _ rfl rfl rfl (QOp_indexAddr_vec _ _ _ _ _ _ _ _ _ rfl Try.underlying40 Try.sizeOf2 hc8.1 (by rw [intsD_length]; exact hc8.2) rfl rfl rfl) ?_
            refine AOps_store_eptr _ _ _ _ _ _ (intsD x3) _ rfl rfl rfl rfl rfl rfl rfl Try.sizeOf2 (by rw [intsD_length]; omega) ?_
            rw [intsD_set]
            refine AOps_nil ?_
            refine MC_seq (MC_lift fun G' hn => ACode_region ?_)
            refine AOps_q 35 _ rfl rfl rfl (QOp_move _ _ rfl rfl) ?_
            refine AOps_buildSlice 36 _ _ _ [_] (intsD ([x2])) _ rfl rfl rfl rfl rfl (by decide) Try.underlying40 Try.sizeOf2 (zero_of Try.typeInfo2 rfl) rfl rfl (intsD_one _) ?_
            refine AOps_q 9 _ rfl rfl rfl (QOp_assign _ _ rfl rfl) ?_
            refine AOps_nil ?_
            obtain ⟨s28, hss28, hks28⟩ := bindO h
            clear h
            obtain ⟨fa, hfa⟩ : ∃ fa, fa = x3.set x2.toNat 0 := ⟨_, rfl⟩
            obtain ⟨li, hli⟩ : ∃ li : List Int, li = [x2] := ⟨_, rfl⟩
            rw [← hfa, ← hli] at hss28
            rw [← hfa, ← hli]
            refine MC_weak (E0 := [(0, .d (.pv (colD p0) 0)), (1, iV p1), (6, .vec 0 0), (7, .vec 1 0), (9, .vec 2 0), (23, iV p0.p), (24, iV x2)]) (H0 := [.vec 0 (intsD fa), .vec 0 (hdD hd), .vec 0 (intsD li)]) (Weak_keep (G := GM G _) 0 hm [0, 1, 6, 7, 9, 23, 24] [0, 1, 2] _ _ rfl rfl rfl) ?_
            refine MC_seqJ (fun E' H' M' => M' = M ∧ Weak 85 (GM G M') E' H' [(0, .d (.pv (colD p0) 0)), (1, iV p1), (6, .vec 0 0), (7, .vec 1 0), (9, .vec 2 0), (23, iV p0.p), (24, iV x2)] [.vec 0 (intsD s28.1), .vec 0 (hdD hd), .vec 0 (intsD s28.2)]) ?_ ?_
            · refine MC_lift fun Gi hn => ?_
              have hmi : Gi.H.length = 3 := by rw [hn.2.1]; rfl
              have hzi : zeroG Gi.H = true := by rw [hn.2.1]; rfl
              refine ACode_post (Q' := seqQ (fun E' H' => Weak 85 Gi E' H' [(0, .d (.pv (colD p0) 0)), (1, iV p1), (6, .vec 0 0), (7, .vec 1 0), (9, .vec 2 1), (23, iV p0.p), (24, iV x2)] [.vec 0 (intsD s28.1), .vec 0 (hdD hd), .vec 1 (intsD s28.2)]) (fun _ _ _ => False)) ?_ ?_
              · refine ACode_weak (E0 := [(0, .d (.pv (colD p0) 0)), (1, iV p1), (6, .vec 0 0), (7, .vec 1 0), (9, .vec 2 1), (23, iV p0.p), (24, iV x2)]) (H0 := [.vec 0 (intsD fa), .vec 0 (hdD hd), .vec 1 (intsD li)]) (Weak_trans (Weak_age 9 2 _ rfl rfl) (Weak_keep 3 hmi [0, 1, 6, 7, 9, 23, 24] [] _ _ rfl rfl rfl)) ?_
                have h := hss28
                refine ACode_seq (ACode_region ?_)
                refine AOps_q 10 _ rfl rfl rfl (QOp_assign _ _ rfl rfl) ?_
                refine AOps_nil ?_
                refine ACode_block ?_
                refine ACode_loopW (fun k1 E H => ∃ (x41 : Int) (x42 : List Int) (x43 : List Int), E = [(0, .d (.pv (colD p0) 0)), (1, iV p1), (6, .vec 0 0), (7, .vec 1 0), (9, .vec 2 1), (10, iV x41), (23, iV p0.p), (24, iV x2)] ∧ H = [.vec 0 (intsD x42), .vec 0 (hdD hd), .vec 1 (intsD x43)] ∧ impl_Colouring_walk_l1 k p0 p1 k1 x41 x42 x43 = some s28) k _ _ (Weak_keep 3 hmi [0, 1, 6, 7, 9, 10, 23, 24] [] _ _ rfl rfl rfl) ⟨_, _, _, rfl, rfl, h⟩ ?_
                clear h
                rintro k1 E H ⟨x41, x42, x43, rfl, rfl, h⟩
                cases k1 with
                | zero => cases (show (none : Option (List Int × List Int)) = some _ from h)
                | succ k1 =>
                  rw [impl_Colouring_walk_l1] at h
                  refine ACode_seq ?_
                  refine ACode_seq (ACode_region ?_)
                  refine AOps_q 37 _ rfl rfl rfl (QOp_move _ _ rfl rfl) ?_
                  refine AOps_q 38 _ rfl rfl rfl (QOp_move _ _ rfl rfl) ?_
                  refine AOps_q 39 _ rfl rfl rfl (QOp_len_vec _ _ _ _ _ _ _ _ (intsD_length _) rfl rfl rfl rfl Try.underlying40 rfl rfl) ?_
                  refine AOps_q 40 _ rfl rfl rfl (QOp_lss _ _ _ _ _ _ _ rfl rfl rfl) ?_
                  refine AOps_nil ?_
                  refine ACode_cond _ rfl (fun hb44 => ?_) (fun hb44 => ?_)
                  · have h := iteT hb44 h
                    refine ACode_skip ?_
                    obtain ⟨s59, hss59, hks59⟩ := bindO h
                    clear h
                    refine ACode_seqJ (fun E' H' => Weak 85 Gi E' H' [(0, .d (.pv (colD p0) 0)), (1, iV p1), (6, .vec 0 0), (7, .vec 1 0), (9, .vec 2 1), (10, iV x41), (23, iV p0.p), (24, iV x2)] [.vec 0 (intsD s59.1), .vec 0 (hdD hd), .vec 1 (intsD s59.2)]) ?_ ?_
                    · have h := hss59
                      clear hss59
                      refine ACode_block ?_
                      refine ACode_seq (ACode_region ?_)
                      refine AOps_q 43 _ rfl rfl rfl (QOp_move _ _ rfl rfl) ?_
                      refine AOps_q 44 _ rfl rfl rfl (QOp_move _ _ rfl rfl) ?_
                      refine AOps_q 45 _ rfl rfl rfl (QOp_move _ _ rfl rfl) ?_
                      obtain ⟨hc45, h⟩ := guardO h
                      refine AOps_q 46 _ rfl rfl rfl (QOp_indexAddr_vec _ _ _ _ _ _ _ _ _ rfl Try.underlying40 Try.sizeOf2 hc45.1 (by rw [intsD_length]; exact hc45.2) rfl rfl rfl) ?_
                      refine AOps_q 47 _ rfl rfl rfl (QOp_load_eptr _ _ _ _ _ _ _ rfl Try.isAgg2 rfl rfl (intsD_get _ _ 0 (by omega))) ?_
                      refine AOps_q 48 _ rfl rfl rfl (QOp_move _ _ rfl rfl) ?_
                      obtain ⟨r46, hr46, h⟩ := bindO h
                      refine AOps_call [] 49 _ _ _ _ _ _ _ _ _ _ rfl rfl rfl rfl rfl rfl rfl Try.call66 rfl (nodupB_sound _ rfl) rfl rfl rfl (impl_Colouring_neighbours_ac k p0 (x43.getD x41.toNat 0) p1 _ hr46) ?_
                      rintro _ _ ⟨rfl, rfl⟩
                      refine ⟨(allc (fun _ _ => trivial) (fun _ h => nomatch h)), (allc (trivial) (fun _ h => nomatch h)), AOps_as 49 (v' := .vec 3 0) (H' := [.vec 0 (intsD x42), .vec 0 (hdD hd), .vec 1 (intsD x43), .vec 0 (intsD r46)]) rfl rfl ?_⟩
                      refine AOps_q 50 _ rfl rfl rfl (QOp_len_vec _ _ _ _ _ _ _ _ (intsD_length _) rfl rfl rfl rfl Try.underlying40 rfl rfl) ?_
                      refine AOps_q 51 _ rfl rfl rfl (QOp_move _ _ rfl rfl) ?_
                      refine AOps_nil ?_
                      refine ACode_block ?_
                      refine ACode_loopW (fun k2 E H => ∃ (x47 : Int) (x48 : List Int) (x49 : List Int), E = [(0, .d (.pv (colD p0) 0)), (1, iV p1), (6, .vec 0 0), (7, .vec 1 0), (9, .vec 2 1), (10, iV x41), (23, iV p0.p), (24, iV x2), (49, .vec 3 0), (50, iV (r46.length : Int)), (51, iV x47)] ∧ H = [.vec 0 (intsD x48), .vec 0 (hdD hd), .vec 1 (intsD x49), .vec 0 (intsD r46)] ∧ impl_Colouring_walk_l2 x41 r46 k2 x47 x48 x49 = some s59) k _ _ (Weak_keep 3 hmi [0, 1, 6, 7, 9, 10, 23, 24, 49, 50, 51] [3] _ _ rfl rfl rfl) ⟨_, _, _, rfl, rfl, h⟩ ?_
                      clear h
                      rintro k2 E H ⟨x47, x48, x49, rfl, rfl, h⟩
                      cases k2 with
                      | zero => cases (show (none : Option (List Int × List Int)) = some _ from h)
                      | succ k2 =>
                        rw [impl_Colouring_walk_l2] at h
                        refine ACode_seq (ACode_region ?_)
                        refine AOps_q 52 _ rfl rfl rfl (QOp_lss _ _ _ _ _ _ _ rfl rfl rfl) ?_
                        refine AOps_nil ?_
                        refine ACode_seq ?_
                        refine ACode_cond _ rfl (fun hb50 => ?_) (fun hb50 => ?_)
                        · have h := iteT hb50 h
                          refine ACode_skip ?_
                          obtain ⟨s58, hss58, hks58⟩ := bindO h
                          clear h
                          refine ACode_seqJ (fun E' H' => Weak 85 Gi E' H' [(0, .d (.pv (colD p0) 0)), (1, iV p1), (6, .vec 0 0), (7, .vec 1 0), (9, .vec 2 1), (10, iV x41), (23, iV p0.p), (24, iV x2), (49, .vec 3 0), (50, iV (r46.length : Int)), (51, iV x47)] [.vec 0 (intsD s58.1), .vec 0 (hdD hd), .vec 1 (intsD s58.2), .vec 0 (intsD r46)]) ?_ ?_
                          · have h := hss58
                            clear hss58
                            refine ACode_block ?_
                            refine ACode_seq (ACode_region ?_)
                            obtain ⟨hc51, h⟩ := guardO h
                            refine AOps_q 53 _ rfl rfl rfl (QOp_indexAddr_vec _ _ _ _ _ _ _ _ _ rfl Try.underlying40 Try.sizeOf2 hc51.1 (by rw [intsD_length]; exact hc51.2) rfl rfl rfl) ?_
                            refine AOps_q 54 _ rfl rfl rfl (QOp_load_eptr _ _ _ _ _ _ _ rfl Try.isAgg2 rfl rfl (intsD_get _ _ 0 (by omega))) ?_
                            refine AOps_q 12 _ rfl rfl rfl (QOp_assign _ _ rfl rfl) ?_
                            refine AOps_nil ?_
                            refine ACode_seq (ACode_region ?_)
                            refine AOps_q 55 _ rfl rfl rfl (QOp_move _ _ rfl rfl) ?_
                            refine AOps_q 56 _ rfl rfl rfl (QOp_move _ _ rfl rfl) ?_
                            obtain ⟨hc52, h⟩ := guardO h
                            refine AOps_q 57 _ rfl rfl rfl (QOp_indexAddr_vec _ _ _ _ _ _ _ _ _ rfl Try.underlying40 Try.sizeOf2 hc52.1 (by rw [intsD_length]; exact hc52.2) rfl rfl rfl) ?_
                            refine AOps_q 58 _ rfl rfl rfl (QOp_load_eptr _ _ _ _ _ _ _ rfl Try.isAgg2 rfl rfl (intsD_get _ _ 0 (by omega))) ?_
                            refine AOps_q 59 _ rfl rfl rfl (QOp_lss _ _ _ _ _ _ _ rfl rfl rfl) ?_
                            refine AOps_nil ?_
                            refine ACode_cond _ rfl (fun hb53 => ?_) (fun hb53 => ?_)
                            · have h := iteT hb53 h
                              refine ACode_seq (ACode_region ?_)
                              refine AOps_q 60 _ rfl rfl rfl (QOp_move _ _ rfl rfl) ?_
                              refine AOps_q 61 _ rfl rfl rfl (QOp_move _ _ rfl rfl) ?_
                              refine AOps_q 62 _ rfl rfl rfl (QOp_move _ _ rfl rfl) ?_
                              refine AOps_q 63 _ rfl rfl rfl (QOp_move _ _ rfl rfl) ?_
                              refine AOps_q 64 _ rfl rfl rfl (QOp_move _ _ rfl rfl) ?_
                              obtain ⟨hc54, h⟩ := guardO h
                              refine AOps_q 65 _ rfl rfl rfl (QOp_indexAddr_vec _ _ _ _ _ _ _ _ _ rfl Try.underlying40 Try.sizeOf2 hc54.1 (by rw [intsD_length]; exact hc54.2) rfl rfl rfl) ?_
                              refine AOps_q 66 _ rfl rfl rfl (QOp_load_eptr _ _ _ _ _ _ _ rfl Try.isAgg2 rfl rfl (intsD_get _ _ 0 (by omega))) ?_
                              obtain ⟨hc55, h⟩ := guardO h
                              refine AOps_q 67 _ rfl rfl rfl (QOp_indexAddr_vec _ _ _ _ _ _ _ _ _ rfl Try.underlying40 Try.sizeOf2 hc55.1 (by rw [intsD_length]; exact hc55.2) rfl rfl rfl) ?_
                              refine AOps_q 68 _ rfl rfl rfl (QOp_load_eptr _ _ _ _ _ _ _ rfl Try.isAgg2 rfl rfl (intsD_get _ _ 0 (by omega))) ?_
                              refine AOps_q 69 _ rfl rfl rfl (QOp_add _ _ _ _ _ _ _ rfl rfl rfl) ?_
                              obtain ⟨hc56, h⟩ := guardO h
                              refine AOps_q 70 _ rfl rfl rfl (QOp_indexAddr_vec _ _ _ _ _ _ _ _ _ rfl Try.underlying40 Try.sizeOf2 hc56.1 (by rw [intsD_length]; exact hc56.2) rfl rfl rfl) ?_
                              refine AOps_store_eptr _ _ _ _ _ _ (intsD x48) _ rfl rfl rfl rfl rfl rfl rfl Try.sizeOf2 (by rw [intsD_length]; omega) ?_
                              rw [intsD_set]
                              refine AOps_nil ?_
                              refine (ACode_region ?_)
                              refine AOps_q 71 _ rfl rfl rfl (QOp_move _ _ rfl rfl) ?_
                              refine AOps_q 72 _ rfl rfl rfl (QOp_move _ _ rfl rfl) ?_
                              refine AOps_buildSlice 73 _ _ _ [_] (intsD ([(r46.getD x47.toNat 0)])) _ rfl rfl rfl rfl rfl (by decide) Try.underlying40 Try.sizeOf2 (zero_of Try.typeInfo2 rfl) rfl rfl (intsD_one _) ?_
                              obtain ⟨hc57, h⟩ := guardO h
                              refine AOps_append 74 _ _ _ _ _ _ _ _ _ _ _ _ rfl rfl rfl rfl rfl rfl rfl Try.underlying40 Try.type2 rfl rfl rfl (by decide) rfl rfl rfl rfl (intsD_one _) (by rw [intsD_length, intsD_length]; exact hc57) ?_
                              rw [intsD_app]
                              refine AOps_q 9 _ rfl rfl rfl (QOp_assign _ _ rfl rfl) ?_
                              refine AOps_nil ?_
                              cases h
                              exact Weak_trans (Weak_keep 3 hmi [0, 1, 6, 7, 9, 10, 23, 24, 49, 50, 51] [3] _ _ rfl rfl rfl) (Weak_reset 3 hmi hzi [0, 1, 6, 7, 9, 10, 23, 24, 49, 50, 51] _ _ rfl rfl)
                            · have h := iteF hb53 h
                              refine ACode_skip ?_
                              cases h
                              exact Weak_keep 3 hmi [0, 1, 6, 7, 9, 10, 23, 24, 49, 50, 51] [3] _ _ rfl rfl rfl
                          intro E' H' hw
                          refine ACode_weak hw ?_
                          have h := hks58
                          refine (ACode_region ?_)
                          refine AOps_q 75 _ rfl rfl rfl (QOp_add _ _ _ _ _ _ _ rfl rfl rfl) ?_
                          refine AOps_q 51 _ rfl rfl rfl (QOp_move _ _ rfl rfl) ?_
                          refine AOps_nil ?_
                          exact ⟨k2, _, _, Nat.lt_succ_self _, Weak_keep 3 hmi [0, 1, 6, 7, 9, 10, 23, 24, 49, 50, 51] [3] _ _ rfl rfl rfl, _, _, _, rfl, rfl, h⟩
                        · have h := iteF hb50 h
                          refine ACode_exit ?_
                          cases h
                          exact Weak_keep 3 hmi [0, 1, 6, 7, 9, 10, 23, 24] [] _ _ rfl rfl rfl
                    intro E' H' hw
                    refine ACode_weak hw ?_
                    have h := hks59
                    refine (ACode_region ?_)
                    refine AOps_q 41 _ rfl rfl rfl (QOp_move _ _ rfl rfl) ?_
                    refine AOps_q 42 _ rfl rfl rfl (QOp_add _ _ _ _ _ _ _ rfl rfl rfl) ?_
                    refine AOps_q 10 _ rfl rfl rfl (QOp_assign _ _ rfl rfl) ?_
                    refine AOps_nil ?_
                    exact ⟨k1, _, _, Nat.lt_succ_self _, Weak_keep 3 hmi [0, 1, 6, 7, 9, 10, 23, 24] [] _ _ rfl rfl rfl, _, _, _, rfl, rfl, h⟩
                  · have h := iteF hb44 h
                    refine ACode_exit ?_
                    cases h
                    exact Weak_keep 3 hmi [0, 1, 6, 7, 9, 23, 24] [] _ _ rfl rfl rfl
              · intro x E' H' q
                cases x with
                | normal => exact ⟨_, _, q, rfl, Weak_reset (G := GM G _) 0 hm hz [0, 1, 6, 7, 9, 23, 24] _ _ rfl rfl⟩
                | _ => exact q.elim
            · rintro E' H' M' ⟨rfl, hw⟩
              refine MC_weak hw ?_
              have h := hks28
              obtain ⟨r29, hr29, h⟩ := bindO h
              obtain ⟨hc30, h⟩ := guardO h
              refine MC_seq (MC_lift fun G' hn => ACode_region ?_)
              refine AOps_q 76 _ rfl rfl rfl (QOp_move _ _ rfl rfl) ?_
              refine AOps_call [2] 77 _ _ _ _ _ _ _ _ _ _ rfl rfl rfl rfl rfl rfl rfl Try.call67 rfl (nodupB_sound _ rfl) rfl rfl rfl (sortI_ac s28.2 _ hr29) ?_
              rintro _ _ ⟨rfl, rfl⟩
              refine ⟨(allc (fun _ _ => trivial) (fun _ h => nomatch h)), (fun _ h => nomatch h), AOps_as 77 (v' := .tup []) (H' := [.vec 0 (intsD s28.1), .vec 0 (hdD hd), .vec 0 (intsD r29)]) rfl rfl ?_⟩
              refine AOps_nil ?_
              refine MC_region ?_
              refine MOps_q 78 _ rfl rfl rfl (fun _ _ => QOp_move _ _ rfl rfl) ?_
              refine MOps_q 79 _ rfl rfl rfl (fun _ _ => QOp_move _ _ rfl rfl) ?_
              refine MOps_abandonI hG 79 2 0 r29 rfl rfl (fun b vs hb1 hrow1 => ?_)
              refine MOps_step (K1 := fun E' H' => E' = _ ∧ H' = _) (fun G' hn => AOps_buildSlice 80 _ _ _ [_] (hdD [(b, r29.length, vs.size)]) _ rfl rfl rfl rfl rfl (by decide) Try.underlying25 Try.sizeOf40 (zero_of Try.typeInfo40 rfl) rfl rfl (hdD_one _) (AOps_nil ⟨rfl, rfl⟩)) ?_
              rintro _ _ ⟨rfl, rfl⟩
              refine MOps_step (K1 := fun E' H' => E' = _ ∧ H' = _) (fun G' hn => AOps_append 81 _ _ _ _ _ _ _ _ _ _ _ _ rfl rfl rfl rfl rfl rfl rfl Try.underlying25 Try.type40 rfl rfl rfl (by decide) rfl rfl rfl rfl (hdD_one _) (by rw [hdD_length, hdD_length, ← hT.1]; exact hc30) (AOps_nil ⟨rfl, rfl⟩)) ?_
              rintro _ _ ⟨rfl, rfl⟩
              rw [hdD_app]
              refine MOps_q 7 _ rfl rfl rfl (fun _ _ => QOp_assign _ _ rfl rfl) ?_
              refine MOps_nil ?_
              cases h
              refine ⟨hd ++ [(b, r29.length, vs.size)], Weak_trans (Weak_keep (G := GM G _) 0 hm [0, 1, 6, 7, 23, 24] [0, 1] _ _ rfl rfl rfl) (Weak_reset (G := GM G _) 0 hm hz [0, 1, 6, 7, 23, 24] _ _ rfl rfl), tab_nodup hnd hT hb1, tab_snoc hT hrow1⟩
        · rintro E' H' M' ⟨hd', hw, hnd', hT'⟩
          refine MC_weak hw ?_
          refine MC_region ?_
          refine MOps_q 82 _ rfl rfl rfl (fun _ _ => QOp_add _ _ _ _ _ _ _ rfl rfl rfl) ?_
          refine MOps_q 24 _ rfl rfl rfl (fun _ _ => QOp_move _ _ rfl rfl) ?_
          refine MOps_weak (E0 := [(0, .d (.pv (colD p0) 0)), (1, iV p1), (6, .vec 0 0), (7, .vec 1 0), (23, iV p0.p), (24, iV (w64 (x2 + 1)))]) (H0 := [.vec 0 (intsD s31.1), .vec 0 (hdD hd')]) (Weak_keep (G := GM G _) 0 hm [0, 1, 6, 7, 23, 24] [0, 1] _ _ rfl rfl rfl) (MOps_nil ?_)
          exact ⟨kk, Nat.lt_succ_self _, _, _, _, hd', rfl, rfl, hnd', hT', hks31⟩
      · have h := iteF hb h
        refine MC_exit ?_
        cases h
        exact ⟨hd, Weak_keep (G := GM G _) 0 hm [6, 7] [0, 1] _ _ rfl rfl rfl, hnd, hT⟩
  · rintro E' H' M' ⟨hd, hw, hnd, hT⟩
    refine MC_weak hw ?_
    cases hks32
    refine MC_seq (MC_region ?_)
    refine MOps_q 83 _ rfl rfl rfl (fun _ _ => QOp_move _ _ rfl rfl) ?_
    refine MOps_q 84 _ rfl rfl rfl (fun _ _ => QOp_move _ _ rfl rfl) ?_
    refine MOps_q 4 _ rfl rfl rfl (fun _ _ => QOp_assign _ _ rfl rfl) ?_
    refine MOps_q 5 _ rfl rfl rfl (fun _ _ => QOp_assign _ _ rfl rfl) ?_
    refine MOps_nil ?_
    refine MC_retn ?_
    exact ⟨_, _, fun r a w h => ⟨r, h⟩, _, _, [1, 0], _, (.cons (ResV_tmp _ _ rfl) (.cons (ResV_tmp _ _ rfl) .nil)), rfl, rfl, rfl, hd, rfl, rfl, hnd, hT⟩
end Go.Proofs.Ytmmiokljmfkoiaa
