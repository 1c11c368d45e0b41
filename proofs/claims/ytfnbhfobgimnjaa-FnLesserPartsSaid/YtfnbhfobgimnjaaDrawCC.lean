/- Plain function of spec.DrawCupsAndCaps and that the program computes it: a table whose last row may be written. No conditions. -/
import Derived.Test.YtfnbhfobgimnjaaUntab
import Derived.Test.YtfnbhfobgimnjaaAb27
import Derived.Test.YtfnbhfobgimnjaaGenD
import Derived.Test.YtfnbhfobgimnjaaChain
set_option linter.unusedVariables false
set_option linter.unusedSimpArgs false
namespace Go.Proofs.Ytfnbhfobgimnjaa
open Go Go.RowKit Ab

def spec_DrawCupsAndCaps_l0 : Nat → Int → Int → Src → (List (List Int)) → Option (Int × Src × List (List Int))
  | 0, _, _, _, _ => none
  | k0 + 1, x4, x5, x6, x7 => (if decide (0 < x5) then ((spec_l01Next x6 41).bind fun r9 => ((spec_l01Next r9.2 3).bind fun r10 => (if decide (r10.1 = 0) then some (w64 ((w64 ((w64 (x4 * x4)).tdiv 20)) - 10), r10.2) else some (w64 (r9.1 - 20), r10.2)) : Option (Int × Src)).bind fun s12 => (if x7.length + 1 ≤ 1099511627776 then (spec_l01Next s12.2 5).bind fun r14 => some (w64 ((w64 (x4 + 1)) + r14.1), r14.2, (x7 ++ ([[x4, s12.1]]))) else none) : Option (Int × Src × List (List Int))).bind fun s15 => spec_DrawCupsAndCaps_l0 k0 s15.1 (w64 (x5 - 1)) s15.2.1 s15.2.2 else some (x4, x6, x7))
def spec_DrawCupsAndCaps (k : Nat) (p0 : List UInt8) : Option (List (List Int)) :=
  (spec_l01From k p0).bind fun r1 => (spec_l01Next r1 40).bind fun r2 => ((spec_l01Next r2.2 18).bind fun r3 => spec_DrawCupsAndCaps_l0 k (w64 (0 - r2.1)) r3.1 r3.2 ([] : List (List Int)) : Option (Int × Src × List (List Int))).bind fun s16 => ((spec_l01Next s16.2.1 24).bind fun r17 => (if decide (r17.1 = 0) then (if s16.2.2.length + 1 ≤ 1099511627776 then some (s16.2.2 ++ ([[s16.1]])) else none) else (if decide (r17.1 = 1) then (if decide (0 < (s16.2.2.length : Int)) then (if 0 ≤ w64 ((s16.2.2.length : Int) - 1) ∧ w64 ((s16.2.2.length : Int) - 1) < (s16.2.2.length : Int) then (spec_l01Next r17.2 2).bind fun r23 => (spec_l01Pick r23.2 ([(-1001), 1001, (-50), 1000])).bind fun r24 => (if 0 ≤ r23.1 ∧ r23.1 < ((s16.2.2.getD (w64 ((s16.2.2.length : Int) - 1)).toNat []).length : Int) then some (s16.2.2.set (w64 ((s16.2.2.length : Int) - 1)).toNat ((s16.2.2.getD (w64 ((s16.2.2.length : Int) - 1)).toNat []).set r23.1.toNat r24.1)) else none) else none) else some s16.2.2) else some s16.2.2)) : Option (List (List Int))).bind fun s26 => some s26

set_option maxRecDepth 100000 in
theorem spec_DrawCupsAndCaps_ac (k : Nat) (p0 : List UInt8) (r : List (List Int)) (h : spec_DrawCupsAndCaps k p0 = some r) : AC Try.prog 26 [.d (.sl none (bysD p0))] [] (fun res H' => res = [.vec 0 0] ∧ H' = [.vec 0 (rowsD r)]) := by
  refine AC_of_bodyN true Try.func26 rfl Try.ntmps26 (rvs := [.tmp 2]) rfl rfl (fun G hG hF => ?_)
  have hm : G.H.length = 0 := by rw [hG]; rfl
  have hz : zeroG G.H = true := by rw [hG]; rfl
  unfold spec_DrawCupsAndCaps at h
  refine kR ?_
  refine kN 1 rfl ?_
  refine kR ?_
  refine kM 1 rfl ?_
  obtain ⟨r1, hr1, h⟩ := bindO h
  refine kC [] 10 (.ptr 0 0) [.box (srcD r1)] rfl Try.call33 rfl rfl (spec_l01From_ac k p0 _ hr1) rfl ?_
  refine kN 1 rfl ?_
  refine kR ?_
  refine AOps_buildSlice 11 _ _ _ [] (hdD []) _ rfl rfl rfl rfl rfl (by decide) Try.underlying41 Try.sizeOf24 (zero_of Try.typeInfo24 rfl) rfl rfl (hdD_one _) ?_
  refine kM 1 rfl ?_
  obtain ⟨r2, hr2, h⟩ := bindO h
  refine kC [0] 13 (iV r2.1) [.box (srcD r2.2), .vec 0 (hdD [])] rfl Try.call34 rfl rfl (spec_l01Next_ac r1 40 _ hr2) rfl ?_
  refine AOps_q 14 _ rfl rfl rfl (QOp_neg _ _ _ _ rfl rfl) ?_
  refine kN 2 rfl ?_
  refine ACode_of_MC ?_
  refine MC_weak (E0 := [(3, .ptr 0 0), (4, .vec 1 0), (5, iV (w64 (0 - r2.1)))]) (H0 := [.box (srcD r2.2), .vec 0 (hdD [])]) (Weak_keep (G := GM G _) 0 hm [3, 4, 5] [0, 1] _ _ rfl rfl rfl) ?_
  obtain ⟨s16, h1, h⟩ := bindO h
  refine MC_seqJ (fun E' H' M' => ∃ hd, Weak 71 (GM G M') E' H' [(3, .ptr 0 0), (4, .vec 1 0), (5, iV s16.1)] [.box (srcD s16.2.1), .vec 0 (hdD hd)] ∧ TabF s16.2.2 hd M' ∧ (hd.map (·.1)).Nodup) ?_ ?_
  · obtain ⟨r3, hr3, h1⟩ := bindO h1
    refine MC_seq (MC_region ?_)
    refine MOps_q 15 _ rfl rfl rfl (fun _ _ => QOp_move _ _ rfl rfl) ?_
    refine MOps_step (K1 := fun E' H' => E' = _ ∧ H' = _) (fun G' hn => kC [0] 16 (iV r3.1) [.box (srcD r3.2), .vec 0 (hdD [])] rfl Try.call34 rfl rfl (spec_l01Next_ac r2.2 18 _ hr3) rfl (AOps_nil ⟨rfl, rfl⟩)) ?_
    rintro _ _ ⟨rfl, rfl⟩
    refine MOps_q 6 _ rfl rfl rfl (fun _ _ => QOp_assign _ _ rfl rfl) ?_
    refine MOps_nil ?_
    refine MC_weak (E0 := [(3, .ptr 0 0), (4, .vec 1 0), (5, iV (w64 (0 - r2.1))), (6, iV r3.1)]) (H0 := [.box (srcD r3.2), .vec 0 (hdD [])]) (Weak_keep (G := GM G _) 0 hm [3, 4, 5, 6] [0, 1] _ _ rfl rfl rfl) ?_
    refine MC_block (MC_loop (fun kk E H M => ∃ (x4 x5 : Int) (x6 : Src) (x7 : List (List Int)) (hd : List (Nat × Nat × Nat)), E = [(3, .ptr 0 0), (4, .vec 1 0), (5, iV x4), (6, iV x5)] ∧ H = [.box (srcD x6), .vec 0 (hdD hd)] ∧ TabF x7 hd M ∧ (hd.map (·.1)).Nodup ∧ spec_DrawCupsAndCaps_l0 kk x4 x5 x6 x7 = some s16) k ⟨_, _, _, [], [], rfl, rfl, ⟨rfl, fun i hi => by simp at hi⟩, by simp, h1⟩ ?_)
    rintro kk E H M ⟨x4, x5, x6, x7, hd, rfl, rfl, hT, hnd, h⟩
    cases kk with
    | zero => cases (show (none : Option (Int × Src × List (List Int))) = some _ from h)
    | succ kk =>
      rw [spec_DrawCupsAndCaps_l0] at h
      refine MC_seq (MC_seq (MC_region ?_))
      refine MOps_q 17 _ rfl rfl rfl (fun _ _ => QOp_move _ _ rfl rfl) ?_
      refine MOps_q 18 _ rfl rfl rfl (fun _ _ => QOp_gtr _ _ _ _ _ _ _ rfl rfl rfl) ?_
      refine MOps_nil ?_
      refine MC_cond _ rfl (fun hb => ?_) (fun hb => ?_)
      · have h := iteT hb h
        refine MC_skip ?_
        obtain ⟨s15, h2, h⟩ := bindO h
        obtain ⟨r9, hr9, h2⟩ := bindO h2
        obtain ⟨s12, h3, h2⟩ := bindO h2
        obtain ⟨r10, hr10, h3⟩ := bindO h3
        refine MC_seq (MC_block ?_)
        refine MC_seq (MC_region ?_)
        refine MOps_q 21 _ rfl rfl rfl (fun _ _ => QOp_move _ _ rfl rfl) ?_
        refine MOps_step (K1 := fun E' H' => E' = _ ∧ H' = _) (fun G' hn => kC [0] 22 (iV r9.1) [.box (srcD r9.2), .vec 0 (hdD hd)] rfl Try.call34 rfl rfl (spec_l01Next_ac x6 41 _ hr9) rfl (AOps_nil ⟨rfl, rfl⟩)) ?_
        rintro _ _ ⟨rfl, rfl⟩
        refine MOps_q 23 _ rfl rfl rfl (fun _ _ => QOp_sub _ _ _ _ _ _ _ rfl rfl rfl) ?_
        refine MOps_q 7 _ rfl rfl rfl (fun _ _ => QOp_assign _ _ rfl rfl) ?_
        refine MOps_nil ?_
        refine MC_weak (E0 := [(3, .ptr 0 0), (4, .vec 1 0), (5, iV x4), (6, iV x5), (7, iV (w64 (r9.1 - 20)))]) (H0 := [.box (srcD r9.2), .vec 0 (hdD hd)]) (Weak_keep (G := GM G _) 0 hm [3, 4, 5, 6, 7] [0, 1] _ _ rfl rfl rfl) ?_
        refine MC_seqJ (fun E' H' M' => M' = M ∧ Weak 71 (GM G M) E' H' [(3, .ptr 0 0), (4, .vec 1 0), (5, iV x4), (6, iV x5), (7, iV s12.1)] [.box (srcD s12.2), .vec 0 (hdD hd)]) ?_ ?_
        · refine MC_seq (MC_region ?_)
          refine MOps_q 24 _ rfl rfl rfl (fun _ _ => QOp_move _ _ rfl rfl) ?_
          refine MOps_step (K1 := fun E' H' => E' = _ ∧ H' = _) (fun G' hn => kC [0] 25 (iV r10.1) [.box (srcD r10.2), .vec 0 (hdD hd)] rfl Try.call34 rfl rfl (spec_l01Next_ac r9.2 3 _ hr10) rfl (AOps_nil ⟨rfl, rfl⟩)) ?_
          rintro _ _ ⟨rfl, rfl⟩
          refine MOps_q 26 _ rfl rfl rfl (fun _ _ => QOp_eql _ _ _ _ _ _ _ rfl rfl rfl) ?_
          refine MOps_nil ?_
          refine MC_cond _ rfl (fun hb => ?_) (fun hb => ?_)
          · have h3 := iteT hb h3
            cases h3
            refine MC_region ?_
            refine MOps_q 27 _ rfl rfl rfl (fun _ _ => QOp_move _ _ rfl rfl) ?_
            refine MOps_q 28 _ rfl rfl rfl (fun _ _ => QOp_move _ _ rfl rfl) ?_
            refine MOps_q 29 _ rfl rfl rfl (fun _ _ => QOp_mul _ _ _ _ _ _ _ rfl rfl rfl) ?_
            refine MOps_q 30 _ rfl rfl rfl (fun _ _ => QOp_quo _ _ _ _ _ _ _ (by decide) rfl rfl rfl) ?_
            refine MOps_q 31 _ rfl rfl rfl (fun _ _ => QOp_sub _ _ _ _ _ _ _ rfl rfl rfl) ?_
            refine MOps_q 7 _ rfl rfl rfl (fun _ _ => QOp_assign _ _ rfl rfl) ?_
            refine MOps_nil ?_
            exact ⟨rfl, Weak_keep (G := GM G _) 0 hm [3, 4, 5, 6, 7] [0, 1] _ _ rfl rfl rfl⟩
          · have h3 := iteF hb h3
            cases h3
            refine MC_skip ?_
            exact ⟨rfl, Weak_keep (G := GM G _) 0 hm [3, 4, 5, 6, 7] [0, 1] _ _ rfl rfl rfl⟩
        · rintro E' H' M' ⟨rfl, hw⟩
          refine MC_weak hw ?_
          obtain ⟨hc13, h2⟩ := guardO h2
          obtain ⟨r14, hr14, h2⟩ := bindO h2
          cases h2
          refine MC_seq (MC_region ?_)
          refine MOps_q 32 _ rfl rfl rfl (fun _ _ => QOp_move _ _ rfl rfl) ?_
          refine MOps_q 33 _ rfl rfl rfl (fun _ _ => QOp_move _ _ rfl rfl) ?_
          refine MOps_q 34 _ rfl rfl rfl (fun _ _ => QOp_move _ _ rfl rfl) ?_
          refine MOps_step (K1 := fun E' H' => E' = _ ∧ H' = _) (fun G' hn => AOps_buildSlice 35 _ _ _ [_, _] (intsD ([x4, s12.1])) _ rfl rfl rfl rfl rfl (by decide) Try.underlying24 Try.sizeOf2 (zero_of Try.typeInfo2 rfl) rfl rfl (intsD_one _) (AOps_nil ⟨rfl, rfl⟩)) ?_
          rintro _ _ ⟨rfl, rfl⟩
          refine MOps_abandonI hG 35 2 0 [x4, s12.1] rfl rfl (fun b vs hb1 hrow1 => ?_)
          refine MOps_step (K1 := fun E' H' => E' = _ ∧ H' = _) (fun G' hn => AOps_buildSlice 36 _ _ _ [_] (hdD [(b, ([x4, s12.1] : List Int).length, vs.size)]) _ rfl rfl rfl rfl rfl (by decide) Try.underlying41 Try.sizeOf24 (zero_of Try.typeInfo24 rfl) rfl rfl (hdD_one _) (AOps_nil ⟨rfl, rfl⟩)) ?_
          rintro _ _ ⟨rfl, rfl⟩
          refine MOps_step (K1 := fun E' H' => E' = _ ∧ H' = _) (fun G' hn => AOps_append 37 _ _ _ _ _ _ _ _ _ _ _ _ rfl rfl rfl rfl rfl rfl rfl Try.underlying41 Try.type24 rfl rfl rfl (by decide) rfl rfl rfl rfl (hdD_one _) (by rw [hdD_length, hdD_length]; have := hT.1; simp; omega) (AOps_nil ⟨rfl, rfl⟩)) ?_
          rintro _ _ ⟨rfl, rfl⟩
          rw [hdD_app]
          refine MOps_q 4 _ rfl rfl rfl (fun _ _ => QOp_assign _ _ rfl rfl) ?_
          refine MOps_nil ?_
          refine MC_region ?_
          refine MOps_q 38 _ rfl rfl rfl (fun _ _ => QOp_move _ _ rfl rfl) ?_
          refine MOps_q 39 _ rfl rfl rfl (fun _ _ => QOp_add _ _ _ _ _ _ _ rfl rfl rfl) ?_
          refine MOps_q 40 _ rfl rfl rfl (fun _ _ => QOp_move _ _ rfl rfl) ?_
          refine MOps_step (K1 := fun E' H' => E' = _ ∧ H' = _) (fun G' hn => kC [0] 41 (iV r14.1) [.box (srcD r14.2), .vec 1 (hdD (hd ++ [(b, ([x4, s12.1] : List Int).length, vs.size)])), .gone, .vec 0 (hdD [(b, ([x4, s12.1] : List Int).length, vs.size)])] rfl Try.call34 rfl rfl (spec_l01Next_ac s12.2 5 _ hr14) rfl (AOps_nil ⟨rfl, rfl⟩)) ?_
          rintro _ _ ⟨rfl, rfl⟩
          refine MOps_q 42 _ rfl rfl rfl (fun _ _ => QOp_add _ _ _ _ _ _ _ rfl rfl rfl) ?_
          refine MOps_q 5 _ rfl rfl rfl (fun _ _ => QOp_assign _ _ rfl rfl) ?_
          refine MOps_weak (E0 := [(3, .ptr 0 0), (4, .vec 1 0), (5, iV (w64 (w64 (x4 + 1) + r14.1))), (6, iV x5)]) (H0 := [.box (srcD r14.2), .vec 0 (hdD (hd ++ [(b, ([x4, s12.1] : List Int).length, vs.size)]))]) (Weak_trans (Weak_keep (G := GM G _) 0 hm [3, 4, 5, 6] [0, 1] _ _ rfl rfl rfl) (Weak_reset (G := GM G _) 0 hm hz [3, 4, 5, 6] _ _ rfl rfl)) ?_
          refine MOps_nil ?_
          refine MC_region ?_
          refine MOps_q 19 _ rfl rfl rfl (fun _ _ => QOp_move _ _ rfl rfl) ?_
          refine MOps_q 20 _ rfl rfl rfl (fun _ _ => QOp_sub _ _ _ _ _ _ _ rfl rfl rfl) ?_
          refine MOps_q 6 _ rfl rfl rfl (fun _ _ => QOp_assign _ _ rfl rfl) ?_
          refine MOps_weak (E0 := [(3, .ptr 0 0), (4, .vec 1 0), (5, iV (w64 (w64 (x4 + 1) + r14.1))), (6, iV (w64 (x5 - 1)))]) (H0 := [.box (srcD r14.2), .vec 0 (hdD (hd ++ [(b, ([x4, s12.1] : List Int).length, vs.size)]))]) (Weak_keep (G := GM G _) 0 hm [3, 4, 5, 6] [0, 1] _ _ rfl rfl rfl) ?_
          refine MOps_nil ?_
          exact ⟨kk, Nat.lt_succ_self _, _, _, _, _, _, rfl, rfl, tab_snoc hT hrow1, tab_nodup hnd hT hb1, h⟩
      · have h := iteF hb h
        refine MC_exit ?_
        cases h
        exact ⟨hd, Weak_keep (G := GM G _) 0 hm [3, 4, 5] [0, 1] _ _ rfl rfl rfl, hT, hnd⟩
  · rintro E' H' M' ⟨hd, hw, hT, hnd⟩
    refine MC_weak hw ?_
    obtain ⟨s26, h1, h⟩ := bindO h
    cases h
    refine MC_seqJ (fun E' H' M' => ∃ hd, Weak 71 (GM G M') E' H' [(4, .vec 0 0)] [.vec 0 (hdD hd)] ∧ TabF r hd M') ?_ ?_
    · obtain ⟨r17, hr17, h1⟩ := bindO h1
      refine MC_seq (MC_region ?_)
      refine MOps_q 43 _ rfl rfl rfl (fun _ _ => QOp_move _ _ rfl rfl) ?_
      refine MOps_step (K1 := fun E' H' => E' = _ ∧ H' = _) (fun G' hn => kC [0] 44 (iV r17.1) [.box (srcD r17.2), .vec 0 (hdD hd)] rfl Try.call34 rfl rfl (spec_l01Next_ac s16.2.1 24 _ hr17) rfl (AOps_nil ⟨rfl, rfl⟩)) ?_
      rintro _ _ ⟨rfl, rfl⟩
      refine MOps_nil ?_
      refine MC_block ?_
      refine MC_seq (MC_region ?_)
      refine MOps_q 46 _ rfl rfl rfl (fun _ _ => QOp_eql _ _ _ _ _ _ _ rfl rfl rfl) ?_
      refine MOps_q 45 _ rfl rfl rfl (fun _ _ => QOp_assign _ _ rfl rfl) ?_
      refine MOps_nil ?_
      refine MC_cond _ rfl (fun hb => ?_) (fun hb => ?_)
      · have h1 := iteT hb h1
        obtain ⟨hc19, h1⟩ := guardO h1
        cases h1
        refine MC_region ?_
        refine MOps_q 47 _ rfl rfl rfl (fun _ _ => QOp_move _ _ rfl rfl) ?_
        refine MOps_q 48 _ rfl rfl rfl (fun _ _ => QOp_move _ _ rfl rfl) ?_
        refine MOps_step (K1 := fun E' H' => E' = _ ∧ H' = _) (fun G' hn => AOps_buildSlice 49 _ _ _ [_] (intsD ([s16.1])) _ rfl rfl rfl rfl rfl (by decide) Try.underlying24 Try.sizeOf2 (zero_of Try.typeInfo2 rfl) rfl rfl (intsD_one _) (AOps_nil ⟨rfl, rfl⟩)) ?_
        rintro _ _ ⟨rfl, rfl⟩
        refine MOps_abandonI hG 49 2 0 [s16.1] rfl rfl (fun b vs hb1 hrow1 => ?_)
        refine MOps_step (K1 := fun E' H' => E' = _ ∧ H' = _) (fun G' hn => AOps_buildSlice 50 _ _ _ [_] (hdD [(b, ([s16.1] : List Int).length, vs.size)]) _ rfl rfl rfl rfl rfl (by decide) Try.underlying41 Try.sizeOf24 (zero_of Try.typeInfo24 rfl) rfl rfl (hdD_one _) (AOps_nil ⟨rfl, rfl⟩)) ?_
        rintro _ _ ⟨rfl, rfl⟩
        refine MOps_step (K1 := fun E' H' => E' = _ ∧ H' = _) (fun G' hn => AOps_append 51 _ _ _ _ _ _ _ _ _ _ _ _ rfl rfl rfl rfl rfl rfl rfl Try.underlying41 Try.type24 rfl rfl rfl (by decide) rfl rfl rfl rfl (hdD_one _) (by rw [hdD_length, hdD_length]; have := hT.1; simp; omega) (AOps_nil ⟨rfl, rfl⟩)) ?_
        rintro _ _ ⟨rfl, rfl⟩
        rw [hdD_app]
        refine MOps_q 4 _ rfl rfl rfl (fun _ _ => QOp_assign _ _ rfl rfl) ?_
        refine MOps_nil ?_
        exact ⟨_, Weak_trans (Weak_keep (G := GM G _) 0 hm [4] [1] _ _ rfl rfl rfl) (Weak_reset (G := GM G _) 0 hm hz [4] _ _ rfl rfl), tab_snoc hT hrow1⟩
      · have h1 := iteF hb h1
        refine MC_seq (MC_region ?_)
        refine MOps_q 53 _ rfl rfl rfl (fun _ _ => QOp_eql _ _ _ _ _ _ _ rfl rfl rfl) ?_
        refine MOps_q 52 _ rfl rfl rfl (fun _ _ => QOp_assign _ _ rfl rfl) ?_
        refine MOps_nil ?_
        refine MC_cond _ rfl (fun hb2 => ?_) (fun hb2 => ?_)
        · have h1 := iteT hb2 h1
          have hlT := hT.1
          rw [hlT] at h1
          refine MC_seq (MC_region ?_)
          refine MOps_q 54 _ rfl rfl rfl (fun _ _ => QOp_move _ _ rfl rfl) ?_
          refine MOps_q 55 _ rfl rfl rfl (fun _ _ => QOp_len_vec _ _ _ _ _ _ _ _ (hdD_length _) rfl rfl rfl rfl Try.underlying41 rfl rfl) ?_
          refine MOps_q 56 _ rfl rfl rfl (fun _ _ => QOp_gtr _ _ _ _ _ _ _ rfl rfl rfl) ?_
          refine MOps_nil ?_
          refine MC_cond _ rfl (fun hb3 => ?_) (fun hb3 => ?_)
          · have h1 := iteT hb3 h1
            obtain ⟨hc22, h1⟩ := guardO h1
            obtain ⟨r23, hr23, h1⟩ := bindO h1
            obtain ⟨r24, hr24, h1⟩ := bindO h1
            obtain ⟨hc25, h1⟩ := guardO h1
            cases h1
            refine MC_seq (MC_region ?_)
            refine MOps_q 57 _ rfl rfl rfl (fun _ _ => QOp_move _ _ rfl rfl) ?_
            refine MOps_q 58 _ rfl rfl rfl (fun _ _ => QOp_move _ _ rfl rfl) ?_
            refine MOps_q 59 _ rfl rfl rfl (fun _ _ => QOp_len_vec _ _ _ _ _ _ _ _ (hdD_length _) rfl rfl rfl rfl Try.underlying41 rfl rfl) ?_
            refine MOps_q 60 _ rfl rfl rfl (fun _ _ => QOp_sub _ _ _ _ _ _ _ rfl rfl rfl) ?_
            refine MOps_q 61 _ rfl rfl rfl (fun _ _ => QOp_indexAddr_vec _ _ _ _ _ _ _ _ _ rfl Try.underlying41 Try.sizeOf24 hc22.1 (by rw [hdD_length]; exact hc22.2) rfl rfl rfl) ?_
            refine MOps_q 62 _ rfl rfl rfl (fun _ _ => QOp_load_eptr _ _ _ _ _ _ _ rfl Try.isAgg24 rfl rfl (hdD_get _ _ (0, 0, 0) (by omega))) ?_
            refine MOps_q 8 _ rfl rfl rfl (fun _ _ => QOp_assign _ _ rfl rfl) ?_
            refine MOps_nil ?_
            obtain ⟨j, hj⟩ : ∃ j, j = (w64 ((hd.length : Int) - 1)).toNat := ⟨_, rfl⟩
            rw [← hj] at hc25 ⊢
            have hjl : j < hd.length := by omega
            refine MC_weak (E0 := [(3, .ptr 0 0), (4, .vec 1 0), (8, .d (hX (hd.getD j (0, 0, 0))))]) (H0 := [.box (srcD r17.2), .vec 0 (hdD hd)]) (Weak_keep (G := GM G _) 0 hm [3, 4, 8] [0, 1] _ _ rfl rfl rfl) ?_
            obtain ⟨vs, hmem, a1, a2, a3, a4, a5⟩ := hT.2 j hjl
            obtain ⟨M1, M2, rfl⟩ := List.append_of_mem hmem
            obtain ⟨own, hown⟩ : ∃ own, own = s16.2.2.getD j [] := ⟨_, rfl⟩
            rw [← hown] at a1 a3 a5 hc25
            refine MC_rowI hG hF 8 _ vs own M1 M2 rfl rfl a1 a2 a3 a4 a5 (fun E' Hk zs' => E' = [(4, .vec 1 0)] ∧ Hk = [.box (srcD r24.2), .vec 0 (hdD hd)] ∧ zs' = own.set r23.1.toNat r24.1) (fun Gi hnow => ?_) ?_
            · have hmi : Gi.H.length = 3 := by rw [hnow.2.1]; rfl
              refine ACode_post (Q' := fun x E' H' => x = .normal ∧ Weak 71 Gi E' H' [(4, .vec 1 0)] [.box (srcD r24.2), .vec 0 (hdD hd), .vec 0 (intsD (own.set r23.1.toNat r24.1))]) ?_ (fun x E' H' ⟨e, hw⟩ => ⟨_, _, hw, e, [.box (srcD r24.2), .vec 0 (hdD hd)], own.set r23.1.toNat r24.1, rfl, rfl, by simp, rfl, rfl, rfl⟩)
              refine ACode_region ?_
              refine kM 2 rfl ?_
              refine kC [0] 65 (iV r23.1) [.box (srcD r23.2), .vec 0 (hdD hd), .vec 0 (intsD own)] rfl Try.call34 rfl rfl (spec_l01Next_ac r17.2 2 _ hr23) rfl ?_
              refine kM 1 rfl ?_
              refine AOps_buildSlice 67 _ _ _ [_, _, _, _] (intsD ([(-1001), 1001, (-50), 1000])) _ rfl rfl rfl rfl rfl (by decide) Try.underlying24 Try.sizeOf2 (zero_of Try.typeInfo2 rfl) rfl rfl (intsD_one _) ?_
              refine AOps_freezeL [67] 3 0 _ (allc (rfl) (fun _ h => nomatch h)) rfl ?_
              refine kC [0] 68 (iV r24.1) [.box (srcD r24.2), .vec 0 (hdD hd), .vec 0 (intsD own), .gone] rfl Try.call36 rfl rfl (spec_l01Pick_ac r23.2 ([(-1001), 1001, (-50), 1000]) _ hr24) rfl ?_
              refine AOps_q 69 _ rfl rfl rfl (QOp_indexAddr_vec _ _ _ _ _ _ _ _ _ rfl Try.underlying24 Try.sizeOf2 hc25.1 (by rw [intsD_length]; exact hc25.2) rfl rfl rfl) ?_
              refine AOps_store_eptr _ _ _ _ _ _ (intsD own) _ rfl rfl rfl rfl rfl rfl rfl Try.sizeOf2 (by rw [intsD_length]; omega) ?_
              rw [intsD_set]
              refine AOps_nil ?_
              exact ⟨rfl, Weak_keep 3 hmi [4] [] _ _ rfl rfl rfl⟩
            · rintro E' Hk zs' vs' ⟨rfl, rfl, rfl⟩ e1 e2 e3
              refine ⟨hd, Weak_keep (G := GM G _) 0 hm [4] [1] _ _ rfl rfl rfl, ?_⟩
              rw [← hown]
              exact tab_set hnd hjl hT (by rw [a1, e1]) (by rw [a2, e2]) (by omega) (by omega) e3
          · have h1 := iteF hb3 h1
            cases h1
            refine MC_skip ?_
            exact ⟨hd, Weak_keep (G := GM G _) 0 hm [4] [1] _ _ rfl rfl rfl, hT⟩
        · have h1 := iteF hb2 h1
          cases h1
          refine MC_skip ?_
          exact ⟨hd, Weak_keep (G := GM G _) 0 hm [4] [1] _ _ rfl rfl rfl, hT⟩
    · rintro E' H' M' ⟨hd, hw, hT⟩
      refine MC_weak hw (MC_untab (o := 0) (g := 0) hF rfl hT ?_)
      show ACode _ _ _ _ [(4, .vec 0 0)] [.vec 0 (rowsD r)] _
      refine kR ?_
      refine kN 2 rfl ?_
      refine ACode_ret ?_
      exact ⟨_, _, Weak_reset 0 hm hz [2] _ _ rfl rfl, _, _, [0], _, (.cons (ResV_tmp _ _ rfl) .nil), rfl, rfl, rfl, rfl, rfl⟩
end Go.Proofs.Ytfnbhfobgimnjaa
