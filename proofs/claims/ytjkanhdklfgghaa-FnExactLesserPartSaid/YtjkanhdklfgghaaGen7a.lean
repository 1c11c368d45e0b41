/- Plain functions of the program and that the program computes them: printed by the own tool gen.py. No conditions. -/
import Derived.Test.YtjkanhdklfgghaaSrV
import Derived.Test.YtjkanhdklfgghaaAb17
import Derived.Test.YtjkanhdklfgghaaGen2
set_option linter.unusedVariables false
set_option linter.unusedSimpArgs false
namespace Go.Proofs.Ytjkanhdklfgghaa
open Go Go.RowKit Ab

-- loop.example/g01362/spec.l01Around
def spec_l01Around_l0 (p0 : Col) (p1 : Int) (p2 : Int) : Nat → Int → Int → Option (Int)
  | 0, _, _ => none
  | k0 + 1, x1, x2 => (if decide (x2 < p0.p) then (((if !decide (x2 = p1) then (spec_l01At p0 p1 x2).bind fun r5 => some (decide (r5 = p2)) else some false) : Option (Bool)).bind fun s6 => (if s6 then (if 0 ≤ IntKind.u64.wrap x2 then some (bOr .i64 x1 (bShl .i64 1 (IntKind.u64.wrap x2))) else none) else some x1) : Option (Int)).bind fun s9 => spec_l01Around_l0 p0 p1 p2 k0 s9 (w64 (x2 + 1)) else some x1)
def spec_l01Around (k : Nat) (p0 : Col) (p1 : Int) (p2 : Int) : Option (Int) :=
  (spec_l01Around_l0 p0 p1 p2 k 0 0 : Option (Int)).bind fun s10 => some s10
set_option maxRecDepth 100000 in
theorem spec_l01Around_ac (k : Nat) (p0 : Col) (p1 : Int) (p2 : Int) (r : Int) (h : spec_l01Around k p0 p1 p2 = some r) : AC Try.prog 77 [.d (.agg (colD p0)), iV p1, iV p2] [] (fun res H' => res = [iV r] ∧ H' = []) := by
  refine AC_of_body true Try.func77 rfl Try.ntmps77 (rvs := [.tmp 6]) rfl rfl (fun G hG => ?_)
  have hm : G.H.length = 0 := by rw [hG]; rfl
  have hz : zeroG G.H = true := by rw [hG]; rfl
  unfold spec_l01Around at h
  refine ACode_seq (ACode_region ?_)
  refine AOps_boxI 3 _ _ (.agg (colD p0)) (colD p0) rfl (colD_one _) rfl rfl rfl rfl rfl ?_
  refine AOps_q 6 _ rfl rfl rfl (QOp_assign _ _ rfl rfl) ?_
  refine AOps_nil ?_
  refine ACode_seq (ACode_region ?_)
  refine AOps_q 7 _ rfl rfl rfl (QOp_assign _ _ rfl rfl) ?_
  refine AOps_nil ?_
  obtain ⟨s10, hss10, hks10⟩ := bindO h
  clear h
  refine ACode_seqJ (fun E' H' => Weak 32 G E' H' [(7, iV s10)] []) ?_ ?_
  · have h := hss10
    clear hss10
    refine ACode_seq (ACode_region ?_)
    refine AOps_q 8 _ rfl rfl rfl (QOp_assign _ _ rfl rfl) ?_
    refine AOps_nil ?_
    refine ACode_block ?_
    refine ACode_loopW (fun k0 E H => ∃ (x1 : Int) (x2 : Int), E = [(1, iV p1), (2, iV p2), (3, .d (.pv (colD p0) 0)), (7, iV x1), (8, iV x2)] ∧ H = [] ∧ spec_l01Around_l0 p0 p1 p2 k0 x1 x2 = some s10) k _ _ (Weak_keep 0 hm [1, 2, 3, 7, 8] [] _ _ rfl rfl rfl) ⟨_, _, rfl, rfl, h⟩ ?_
    clear h
    rintro k0 E H ⟨x1, x2, rfl, rfl, h⟩
    cases k0 with
    | zero => cases (show (none : Option (Int)) = some _ from h)
    | succ k0 =>
      rw [spec_l01Around_l0] at h
      refine ACode_seq ?_
      refine ACode_seq (ACode_region ?_)
      refine AOps_q 9 _ rfl rfl rfl (QOp_move _ _ rfl rfl) ?_
      refine AOps_q 10 _ rfl rfl rfl (QOp_fieldAddr_pv _ _ _ _ _ 0 _ _ rfl Try.underlying24 rfl _ Try.sizeOf2 rfl rfl) ?_
      refine AOps_q 11 _ rfl rfl rfl (QOp_load_pv _ _ _ _ _ rfl Try.isAgg2 rfl rfl) ?_
      refine AOps_q 12 _ rfl rfl rfl (QOp_lss _ _ _ _ _ _ _ rfl rfl rfl) ?_
      refine AOps_nil ?_
      refine ACode_cond _ rfl (fun hb3 => ?_) (fun hb3 => ?_)
      · have h := iteT hb3 h
        refine ACode_skip ?_
        obtain ⟨s9, hss9, hks9⟩ := bindO h
        clear h
        refine ACode_seqJ (fun E' H' => Weak 32 G E' H' [(1, iV p1), (2, iV p2), (3, .d (.pv (colD p0) 0)), (7, iV s9), (8, iV x2)] []) ?_ ?_
        · have h := hss9
          clear hss9
          refine ACode_block ?_
          obtain ⟨s6, hss6, hks6⟩ := bindO h
          clear h
          refine ACode_seqJ (fun E' H' => Weak 32 G E' H' [(1, iV p1), (2, iV p2), (3, .d (.pv (colD p0) 0)), (7, iV x1), (8, iV x2), (25, bV s6)] []) ?_ ?_
          · have h := hss6
            clear hss6
            refine (ACode_region ?_)
            refine AOps_q 15 _ rfl rfl rfl (QOp_move _ _ rfl rfl) ?_
            refine AOps_q 16 _ rfl rfl rfl (QOp_move _ _ rfl rfl) ?_
            refine AOps_q 17 _ rfl rfl rfl (QOp_neq _ _ _ _ _ _ _ rfl rfl rfl) ?_
            refine AOps_q 18 _ rfl rfl rfl (QOp_move _ _ rfl rfl) ?_
            refine AOps_case 18 _ rfl (fun hb4 => ?_) (fun hb4 => ?_)
            · have h := iteT hb4 h
              refine AOps_q 19 _ rfl rfl rfl (QOp_loadN_pv _ _ _ _ _ _ rfl Try.isAgg24 Try.sizeOf24 rfl (colD_all _) (colD_length _)) ?_
              refine AOps_q 20 _ rfl rfl rfl (QOp_move _ _ rfl rfl) ?_
              refine AOps_q 21 _ rfl rfl rfl (QOp_move _ _ rfl rfl) ?_
              obtain ⟨r5, hr5, h⟩ := bindO h
              refine AOps_call [] 22 _ _ _ _ _ _ _ _ _ _ rfl rfl rfl rfl rfl rfl rfl Try.call64 rfl (nodupB_sound _ rfl) rfl rfl rfl (spec_l01At_ac p0 p1 x2 _ hr5) ?_
              rintro _ _ ⟨rfl, rfl⟩
              refine ⟨(fun _ h => nomatch h), (allc (trivial) (fun _ h => nomatch h)), AOps_as 22 (v' := iV r5) (H' := []) rfl rfl ?_⟩
              refine AOps_q 23 _ rfl rfl rfl (QOp_move _ _ rfl rfl) ?_
              refine AOps_q 24 _ rfl rfl rfl (QOp_eql _ _ _ _ _ _ _ rfl rfl rfl) ?_
              refine AOps_q 25 _ rfl rfl rfl (QOp_pick_t _ _ _ _ rfl rfl rfl) ?_
              refine AOps_nil ?_
              cases h
              exact Weak_keep 0 hm [1, 2, 3, 7, 8, 25] [] _ _ rfl rfl rfl
            · have h := iteF hb4 h
              refine AOps_skip 19 rfl rfl rfl ?_
              refine AOps_skip 20 rfl rfl rfl ?_
              refine AOps_skip 21 rfl rfl rfl ?_
              refine AOps_skip 22 rfl rfl rfl ?_
              refine AOps_skip 23 rfl rfl rfl ?_
              refine AOps_skip 24 rfl rfl rfl ?_
              refine AOps_q 25 _ rfl rfl rfl (QOp_pick_f _ _ _ _ rfl rfl rfl) ?_
              refine AOps_nil ?_
              cases h
              exact Weak_keep 0 hm [1, 2, 3, 7, 8, 25] [] _ _ rfl rfl rfl
          intro E' H' hw
          refine ACode_weak hw ?_
          have h := hks6
          refine ACode_cond _ rfl (fun hb7 => ?_) (fun hb7 => ?_)
          · have h := iteT hb7 h
            refine (ACode_region ?_)
            refine AOps_q 26 _ rfl rfl rfl (QOp_move _ _ rfl rfl) ?_
            refine AOps_q 27 _ rfl rfl rfl (QOp_move _ _ rfl rfl) ?_
            refine AOps_q 28 _ rfl rfl rfl (QOp_conv _ _ _ _ _ _ rfl rfl Try.underlying76 rfl) ?_
            obtain ⟨hc8, h⟩ := guardO h
            refine AOps_q 29 _ rfl rfl rfl (QOp_shl _ _ _ _ _ _ _ _ hc8 rfl rfl rfl) ?_
            refine AOps_q 30 _ rfl rfl rfl (QOp_or _ _ _ _ _ _ _ rfl rfl rfl) ?_
            refine AOps_q 7 _ rfl rfl rfl (QOp_assign _ _ rfl rfl) ?_
            refine AOps_nil ?_
            cases h
            exact Weak_keep 0 hm [1, 2, 3, 7, 8] [] _ _ rfl rfl rfl
          · have h := iteF hb7 h
            refine ACode_skip ?_
            cases h
            exact Weak_keep 0 hm [1, 2, 3, 7, 8] [] _ _ rfl rfl rfl
        intro E' H' hw
        refine ACode_weak hw ?_
        have h := hks9
        refine (ACode_region ?_)
        refine AOps_q 13 _ rfl rfl rfl (QOp_move _ _ rfl rfl) ?_
        refine AOps_q 14 _ rfl rfl rfl (QOp_add _ _ _ _ _ _ _ rfl rfl rfl) ?_
        refine AOps_q 8 _ rfl rfl rfl (QOp_assign _ _ rfl rfl) ?_
        refine AOps_nil ?_
        exact ⟨k0, _, _, Nat.lt_succ_self _, Weak_keep 0 hm [1, 2, 3, 7, 8] [] _ _ rfl rfl rfl, _, _, rfl, rfl, h⟩
      · have h := iteF hb3 h
        refine ACode_exit ?_
        cases h
        exact Weak_keep 0 hm [7] [] _ _ rfl rfl rfl
  intro E' H' hw
  refine ACode_weak hw ?_
  have h := hks10
  refine ACode_seq (ACode_region ?_)
  refine AOps_q 31 _ rfl rfl rfl (QOp_move _ _ rfl rfl) ?_
  refine AOps_q 6 _ rfl rfl rfl (QOp_assign _ _ rfl rfl) ?_
  refine AOps_nil ?_
  refine ACode_ret ?_
  cases h
  exact ⟨_, _, fun r a w h => ⟨r, h⟩, _, _, [], _, (.cons (ResV_tmp _ _ rfl) .nil), rfl, rfl, rfl, rfl, rfl⟩

-- loop.example/g01362/spec.l02Rows
def spec_l02Rows_l0 (k : Nat) (p0 : Col) (p1 : Int) : Nat → Int → (List Int) → Option (List Int)
  | 0, _, _ => none
  | k0 + 1, x1, x2 => (if decide (x1 < p0.p) then (spec_l01Around k p0 x1 p1).bind fun r4 => (if x2.length + ([r4]).length ≤ 1099511627776 then spec_l02Rows_l0 k p0 p1 k0 (w64 (x1 + 1)) (x2 ++ ([r4])) else none) else some x2)
def spec_l02Rows (k : Nat) (p0 : Col) (p1 : Int) : Option (List Int) :=
  (spec_l02Rows_l0 k p0 p1 k 0 ([] : List Int) : Option (List Int)).bind fun s6 => some s6
set_option maxRecDepth 100000 in
theorem spec_l02Rows_ac (k : Nat) (p0 : Col) (p1 : Int) (r : List Int) (h : spec_l02Rows k p0 p1 = some r) : AC Try.prog 93 [.d (.agg (colD p0)), iV p1] [] (fun res H' => res = [.vec 0 0] ∧ H' = [.vec 0 (intsD r)]) := by
  refine AC_of_body true Try.func93 rfl Try.ntmps93 (rvs := [.tmp 4]) rfl rfl (fun G hG => ?_)
  have hm : G.H.length = 0 := by rw [hG]; rfl
  have hz : zeroG G.H = true := by rw [hG]; rfl
  unfold spec_l02Rows at h
  refine ACode_seq (ACode_region ?_)
  refine AOps_boxI 2 _ _ (.agg (colD p0)) (colD p0) rfl (colD_one _) rfl rfl rfl rfl rfl ?_
  refine AOps_q 4 _ rfl rfl rfl (QOp_assign _ _ rfl rfl) ?_
  refine AOps_nil ?_
  refine ACode_seq (ACode_region ?_)
  refine AOps_buildSlice 7 _ _ _ [] (intsD ([] : List Int)) _ rfl rfl rfl rfl rfl (by decide) Try.underlying38 Try.sizeOf2 (zero_of Try.typeInfo2 rfl) rfl rfl (intsD_one _) ?_
  refine AOps_q 5 _ rfl rfl rfl (QOp_assign _ _ rfl rfl) ?_
  refine AOps_nil ?_
  obtain ⟨s6, hss6, hks6⟩ := bindO h
  clear h
  refine ACode_seqJ (fun E' H' => Weak 22 G E' H' [(5, .vec 0 0)] [.vec 0 (intsD s6)]) ?_ ?_
  · have h := hss6
    clear hss6
    refine ACode_seq (ACode_region ?_)
    refine AOps_q 6 _ rfl rfl rfl (QOp_assign _ _ rfl rfl) ?_
    refine AOps_nil ?_
    refine ACode_block ?_
    refine ACode_loopW (fun k0 E H => ∃ (x1 : Int) (x2 : List Int), E = [(1, iV p1), (2, .d (.pv (colD p0) 0)), (5, .vec 0 0), (6, iV x1)] ∧ H = [.vec 0 (intsD x2)] ∧ spec_l02Rows_l0 k p0 p1 k0 x1 x2 = some s6) k _ _ (Weak_keep 0 hm [1, 2, 5, 6] [0] _ _ rfl rfl rfl) ⟨_, _, rfl, rfl, h⟩ ?_
    clear h
    rintro k0 E H ⟨x1, x2, rfl, rfl, h⟩
    cases k0 with
    | zero => cases (show (none : Option (List Int)) = some _ from h)
    | succ k0 =>
      rw [spec_l02Rows_l0] at h
      refine ACode_seq ?_
      refine ACode_seq (ACode_region ?_)
      refine AOps_q 8 _ rfl rfl rfl (QOp_move _ _ rfl rfl) ?_
      refine AOps_q 9 _ rfl rfl rfl (QOp_fieldAddr_pv _ _ _ _ _ 0 _ _ rfl Try.underlying24 rfl _ Try.sizeOf2 rfl rfl) ?_
      refine AOps_q 10 _ rfl rfl rfl (QOp_load_pv _ _ _ _ _ rfl Try.isAgg2 rfl rfl) ?_
      refine AOps_q 11 _ rfl rfl rfl (QOp_lss _ _ _ _ _ _ _ rfl rfl rfl) ?_
      refine AOps_nil ?_
      refine ACode_cond _ rfl (fun hb3 => ?_) (fun hb3 => ?_)
      · have h := iteT hb3 h
        refine ACode_skip ?_
        refine ACode_seq ?_
        refine ACode_block ?_
        refine (ACode_region ?_)
        refine AOps_q 14 _ rfl rfl rfl (QOp_move _ _ rfl rfl) ?_
        refine AOps_q 15 _ rfl rfl rfl (QOp_loadN_pv _ _ _ _ _ _ rfl Try.isAgg24 Try.sizeOf24 rfl (colD_all _) (colD_length _)) ?_
        refine AOps_q 16 _ rfl rfl rfl (QOp_move _ _ rfl rfl) ?_
        refine AOps_q 17 _ rfl rfl rfl (QOp_move _ _ rfl rfl) ?_
        obtain ⟨r4, hr4, h⟩ := bindO h
        refine AOps_call [] 18 _ _ _ _ _ _ _ _ _ _ rfl rfl rfl rfl rfl rfl rfl Try.call77 rfl (nodupB_sound _ rfl) rfl rfl rfl (spec_l01Around_ac k p0 x1 p1 _ hr4) ?_
        rintro _ _ ⟨rfl, rfl⟩
        refine ⟨(fun _ h => nomatch h), (allc (trivial) (fun _ h => nomatch h)), AOps_as 18 (v' := iV r4) (H' := [.vec 0 (intsD x2)]) rfl rfl ?_⟩
        refine AOps_buildSlice 19 _ _ _ [_] (intsD ([r4])) _ rfl rfl rfl rfl rfl (by decide) Try.underlying38 Try.sizeOf2 (zero_of Try.typeInfo2 rfl) rfl rfl (intsD_one _) ?_
        obtain ⟨hc5, h⟩ := guardO h
        refine AOps_append 20 _ _ _ _ _ _ _ _ _ _ _ _ rfl rfl rfl rfl rfl rfl rfl Try.underlying38 Try.type2 rfl rfl rfl (by decide) rfl rfl rfl rfl (intsD_one _) (by rw [intsD_length, intsD_length]; exact hc5) ?_
        rw [intsD_app]
        refine AOps_q 5 _ rfl rfl rfl (QOp_assign _ _ rfl rfl) ?_
        refine AOps_nil ?_
        refine (ACode_region ?_)
        refine AOps_q 12 _ rfl rfl rfl (QOp_move _ _ rfl rfl) ?_
        refine AOps_q 13 _ rfl rfl rfl (QOp_add _ _ _ _ _ _ _ rfl rfl rfl) ?_
        refine AOps_q 6 _ rfl rfl rfl (QOp_assign _ _ rfl rfl) ?_
        refine AOps_nil ?_
        exact ⟨k0, _, _, Nat.lt_succ_self _, Weak_trans (Weak_keep 0 hm [1, 2, 5, 6] [0] _ _ rfl rfl rfl) (Weak_reset 0 hm hz [1, 2, 5, 6] _ _ rfl rfl), _, _, rfl, rfl, h⟩
      · have h := iteF hb3 h
        refine ACode_exit ?_
        cases h
        exact Weak_keep 0 hm [5] [0] _ _ rfl rfl rfl
  intro E' H' hw
  refine ACode_weak hw ?_
  have h := hks6
  refine ACode_seq (ACode_region ?_)
  refine AOps_q 21 _ rfl rfl rfl (QOp_move _ _ rfl rfl) ?_
  refine AOps_q 4 _ rfl rfl rfl (QOp_assign _ _ rfl rfl) ?_
  refine AOps_nil ?_
  refine ACode_ret ?_
  cases h
  exact ⟨_, _, Weak_reset 0 hm hz [4] _ _ rfl rfl, _, _, [0], _, (.cons (ResV_tmp _ _ rfl) .nil), rfl, rfl, rfl, rfl, rfl⟩

-- loop.example/g01362/spec.l04Component
def spec_l04Component_l1 (p0 : List Int) (x2 : Int) : Nat → Int → Int → Option (Int)
  | 0, _, _ => none
  | k1 + 1, x5, x6 => (if decide (x6 < (p0.length : Int)) then ((if 0 ≤ IntKind.u64.wrap x6 then (if decide (bAnd .i64 (bShr .i64 x2 (IntKind.u64.wrap x6)) 1 = 1) then (if 0 ≤ x6 ∧ x6 < (p0.length : Int) then some (bOr .i64 x5 (p0.getD x6.toNat 0)) else none) else some x5) else none) : Option (Int)).bind fun s11 => spec_l04Component_l1 p0 x2 k1 s11 (w64 (x6 + 1)) else some x5)
def spec_l04Component_l0 (k : Nat) (p0 : List Int) : Nat → Int → Bool → Option (Int)
  | 0, _, _ => none
  | k0 + 1, x2, x3 => (if x3 then ((spec_l04Component_l1 p0 x2 k x2 0 : Option (Int)).bind fun s12 => some (s12, !decide (s12 = x2)) : Option (Int × Bool)).bind fun s13 => spec_l04Component_l0 k p0 k0 s13.1 s13.2 else some x2)
def spec_l04Component (k : Nat) (p0 : List Int) (p1 : Int) : Option (Int) :=
  (if 0 ≤ IntKind.u64.wrap p1 then (spec_l04Component_l0 k p0 k (bShl .i64 1 (IntKind.u64.wrap p1)) true : Option (Int)).bind fun s14 => some s14 else none)
set_option maxRecDepth 100000 in
theorem spec_l04Component_ac (k : Nat) (p0 : List Int) (p1 : Int) (r : Int) (h : spec_l04Component k p0 p1 = some r) : AC Try.prog 92 [.d (.sl none (intsD p0)), iV p1] [] (fun res H' => res = [iV r] ∧ H' = []) := by
  refine AC_of_body true Try.func92 rfl Try.ntmps92 (rvs := [.tmp 4]) rfl rfl (fun G hG => ?_)
  have hm : G.H.length = 0 := by rw [hG]; rfl
  have hz : zeroG G.H = true := by rw [hG]; rfl
  unfold spec_l04Component at h
  refine ACode_seq (ACode_region ?_)
  refine AOps_q 4 _ rfl rfl rfl (QOp_assign _ _ rfl rfl) ?_
  refine AOps_nil ?_
  refine ACode_seq (ACode_region ?_)
  refine AOps_q 9 _ rfl rfl rfl (QOp_move _ _ rfl rfl) ?_
  refine AOps_q 10 _ rfl rfl rfl (QOp_conv _ _ _ _ _ _ rfl rfl Try.underlying76 rfl) ?_
  obtain ⟨hc1, h⟩ := guardO h
  refine AOps_q 11 _ rfl rfl rfl (QOp_shl _ _ _ _ _ _ _ _ hc1 rfl rfl rfl) ?_
  refine AOps_q 5 _ rfl rfl rfl (QOp_assign _ _ rfl rfl) ?_
  refine AOps_nil ?_
  obtain ⟨s14, hss14, hks14⟩ := bindO h
  clear h
  refine ACode_seqJ (fun E' H' => Weak 37 G E' H' [(5, iV s14)] []) ?_ ?_
  · have h := hss14
    clear hss14
    refine ACode_seq (ACode_region ?_)
    refine AOps_q 6 _ rfl rfl rfl (QOp_assign _ _ rfl rfl) ?_
    refine AOps_nil ?_
    refine ACode_block ?_
    refine ACode_loopW (fun k0 E H => ∃ (x2 : Int) (x3 : Bool), E = [(0, .d (.sl none (intsD p0))), (5, iV x2), (6, bV x3)] ∧ H = [] ∧ spec_l04Component_l0 k p0 k0 x2 x3 = some s14) k _ _ (Weak_keep 0 hm [0, 5, 6] [] _ _ rfl rfl rfl) ⟨_, _, rfl, rfl, h⟩ ?_
    clear h
    rintro k0 E H ⟨x2, x3, rfl, rfl, h⟩
    cases k0 with
    | zero => cases (show (none : Option (Int)) = some _ from h)
    | succ k0 =>
      rw [spec_l04Component_l0] at h
      refine ACode_seq ?_
      refine ACode_seq (ACode_region ?_)
      refine AOps_q 12 _ rfl rfl rfl (QOp_move _ _ rfl rfl) ?_
      refine AOps_nil ?_
      refine ACode_cond _ rfl (fun hb4 => ?_) (fun hb4 => ?_)
      · have h := iteT hb4 h
        refine ACode_skip ?_
        obtain ⟨s13, hss13, hks13⟩ := bindO h
        clear h
        refine ACode_tailJ (fun E' H' => Weak 37 G E' H' [(0, .d (.sl none (intsD p0))), (5, iV s13.1), (6, bV s13.2)] []) ?_ ?_
        · have h := hss13
          clear hss13
          refine ACode_block ?_
          refine ACode_seq (ACode_region ?_)
          refine AOps_q 13 _ rfl rfl rfl (QOp_move _ _ rfl rfl) ?_
          refine AOps_q 7 _ rfl rfl rfl (QOp_assign _ _ rfl rfl) ?_
          refine AOps_nil ?_
          obtain ⟨s12, hss12, hks12⟩ := bindO h
          clear h
          refine ACode_seqJ (fun E' H' => Weak 37 G E' H' [(0, .d (.sl none (intsD p0))), (5, iV x2), (7, iV s12)] []) ?_ ?_
          · have h := hss12
            clear hss12
            refine ACode_seq (ACode_region ?_)
            refine AOps_q 8 _ rfl rfl rfl (QOp_assign _ _ rfl rfl) ?_
            refine AOps_nil ?_
            refine ACode_block ?_
            refine ACode_loopW (fun k1 E H => ∃ (x5 : Int) (x6 : Int), E = [(0, .d (.sl none (intsD p0))), (5, iV x2), (7, iV x5), (8, iV x6)] ∧ H = [] ∧ spec_l04Component_l1 p0 x2 k1 x5 x6 = some s12) k _ _ (Weak_keep 0 hm [0, 5, 7, 8] [] _ _ rfl rfl rfl) ⟨_, _, rfl, rfl, h⟩ ?_
            clear h
            rintro k1 E H ⟨x5, x6, rfl, rfl, h⟩
            cases k1 with
            | zero => cases (show (none : Option (Int)) = some _ from h)
            | succ k1 =>
              rw [spec_l04Component_l1] at h
              refine ACode_seq ?_
              refine ACode_seq (ACode_region ?_)
              refine AOps_q 14 _ rfl rfl rfl (QOp_move _ _ rfl rfl) ?_
              refine AOps_q 15 _ rfl rfl rfl (QOp_move _ _ rfl rfl) ?_
              refine AOps_q 16 _ rfl rfl rfl (QOp_len_sl _ _ _ _ _ _ _ (intsD_length _) rfl rfl rfl rfl Try.underlying38 rfl) ?_
              refine AOps_q 17 _ rfl rfl rfl (QOp_lss _ _ _ _ _ _ _ rfl rfl rfl) ?_
              refine AOps_nil ?_
              refine ACode_cond _ rfl (fun hb7 => ?_) (fun hb7 => ?_)
              · have h := iteT hb7 h
                refine ACode_skip ?_
                obtain ⟨s11, hss11, hks11⟩ := bindO h
                clear h
                refine ACode_seqJ (fun E' H' => Weak 37 G E' H' [(0, .d (.sl none (intsD p0))), (5, iV x2), (7, iV s11), (8, iV x6)] []) ?_ ?_
                · have h := hss11
                  clear hss11
                  refine ACode_block ?_
                  refine ACode_seq (ACode_region ?_)
                  refine AOps_q 20 _ rfl rfl rfl (QOp_move _ _ rfl rfl) ?_
                  refine AOps_q 21 _ rfl rfl rfl (QOp_move _ _ rfl rfl) ?_
                  refine AOps_q 22 _ rfl rfl rfl (QOp_conv _ _ _ _ _ _ rfl rfl Try.underlying76 rfl) ?_
                  obtain ⟨hc8, h⟩ := guardO h
                  refine AOps_q 23 _ rfl rfl rfl (QOp_shr _ _ _ _ _ _ _ _ hc8 rfl rfl rfl) ?_
                  refine AOps_q 24 _ rfl rfl rfl (QOp_and _ _ _ _ _ _ _ rfl rfl rfl) ?_
                  refine AOps_q 25 _ rfl rfl rfl (QOp_eql _ _ _ _ _ _ _ rfl rfl rfl) ?_
                  refine AOps_nil ?_
                  refine ACode_cond _ rfl (fun hb9 => ?_) (fun hb9 => ?_)
                  · have h := iteT hb9 h
                    refine (ACode_region ?_)
                    refine AOps_q 26 _ rfl rfl rfl (QOp_move _ _ rfl rfl) ?_
                    refine AOps_q 27 _ rfl rfl rfl (QOp_move _ _ rfl rfl) ?_
                    refine AOps_q 28 _ rfl rfl rfl (QOp_move _ _ rfl rfl) ?_
                    obtain ⟨hc10, h⟩ := guardO h
                    refine AOps_q 29 _ rfl rfl rfl (QOp_indexAddr_sl _ _ _ _ _ _ _ _ rfl Try.underlying38 Try.sizeOf2 hc10.1 (by rw [intsD_length]; exact hc10.2) rfl rfl) ?_
                    refine AOps_q 30 _ rfl rfl rfl (QOp_load_pv _ _ _ _ _ rfl Try.isAgg2 rfl (intsD_get _ _ 0 (by omega))) ?_
                    refine AOps_q 31 _ rfl rfl rfl (QOp_or _ _ _ _ _ _ _ rfl rfl rfl) ?_
                    refine AOps_q 7 _ rfl rfl rfl (QOp_assign _ _ rfl rfl) ?_
                    refine AOps_nil ?_
                    cases h
                    exact Weak_keep 0 hm [0, 5, 7, 8] [] _ _ rfl rfl rfl
                  · have h := iteF hb9 h
                    refine ACode_skip ?_
                    cases h
                    exact Weak_keep 0 hm [0, 5, 7, 8] [] _ _ rfl rfl rfl
                intro E' H' hw
                refine ACode_weak hw ?_
                have h := hks11
                refine (ACode_region ?_)
                refine AOps_q 18 _ rfl rfl rfl (QOp_move _ _ rfl rfl) ?_
                refine AOps_q 19 _ rfl rfl rfl (QOp_add _ _ _ _ _ _ _ rfl rfl rfl) ?_
                refine AOps_q 8 _ rfl rfl rfl (QOp_assign _ _ rfl rfl) ?_
                refine AOps_nil ?_
                exact ⟨k1, _, _, Nat.lt_succ_self _, Weak_keep 0 hm [0, 5, 7, 8] [] _ _ rfl rfl rfl, _, _, rfl, rfl, h⟩
              · have h := iteF hb7 h
                refine ACode_exit ?_
                cases h
                exact Weak_keep 0 hm [0, 5, 7] [] _ _ rfl rfl rfl
          intro E' H' hw
          refine ACode_weak hw ?_
          have h := hks12
          refine ACode_seq (ACode_region ?_)
          refine AOps_q 32 _ rfl rfl rfl (QOp_move _ _ rfl rfl) ?_
          refine AOps_q 33 _ rfl rfl rfl (QOp_move _ _ rfl rfl) ?_
          refine AOps_q 34 _ rfl rfl rfl (QOp_neq _ _ _ _ _ _ _ rfl rfl rfl) ?_
          refine AOps_q 6 _ rfl rfl rfl (QOp_assign _ _ rfl rfl) ?_
          refine AOps_nil ?_
          refine (ACode_region ?_)
          refine AOps_q 35 _ rfl rfl rfl (QOp_move _ _ rfl rfl) ?_
          refine AOps_q 5 _ rfl rfl rfl (QOp_assign _ _ rfl rfl) ?_
          refine AOps_nil ?_
          cases h
          exact Weak_keep 0 hm [0, 5, 6] [] _ _ rfl rfl rfl
        intro E' H' hw
        refine ATail_weak hw ?_
        have h := hks13
        refine ATail_end ?_
        exact ⟨k0, _, _, Nat.lt_succ_self _, Weak_keep 0 hm [0, 5, 6] [] _ _ rfl rfl rfl, _, _, rfl, rfl, h⟩
      · have h := iteF hb4 h
        refine ACode_exit ?_
        cases h
        exact Weak_keep 0 hm [5] [] _ _ rfl rfl rfl
  intro E' H' hw
  refine ACode_weak hw ?_
  have h := hks14
  refine ACode_seq (ACode_region ?_)
  refine AOps_q 36 _ rfl rfl rfl (QOp_move _ _ rfl rfl) ?_
  refine AOps_q 4 _ rfl rfl rfl (QOp_assign _ _ rfl rfl) ?_
  refine AOps_nil ?_
  refine ACode_ret ?_
  cases h
  exact ⟨_, _, fun r a w h => ⟨r, h⟩, _, _, [], _, (.cons (ResV_tmp _ _ rfl) .nil), rfl, rfl, rfl, rfl, rfl⟩

-- loop.example/g01362/spec.ConnectedColours
def spec_ConnectedColours_l0 (k : Nat) (p0 : Col) : Nat → Int → (List Int) → Option (List Int)
  | 0, _, _ => none
  | k0 + 1, x3, x4 => (if decide (x3 < p0.k) then ((if 0 ≤ IntKind.u64.wrap p0.p then (spec_l02Rows k p0 x3).bind fun r7 => (spec_l04Component k r7 0).bind fun r8 => (if decide (r8 = w64 ((bShl .i64 1 (IntKind.u64.wrap p0.p)) - 1)) then (if x4.length + ([x3]).length ≤ 1099511627776 then some (x4 ++ ([x3])) else none) else some x4) else none) : Option (List Int)).bind fun s11 => spec_ConnectedColours_l0 k p0 k0 (w64 (x3 + 1)) s11 else some x4)
def spec_ConnectedColours (k : Nat) (p0 : Col) : Option (List Int × Int) :=
  (spec_l01Is k p0).bind fun r1 => (if !r1 then some ([], 1) else (spec_ConnectedColours_l0 k p0 k 0 ([] : List Int) : Option (List Int)).bind fun s12 => some (s12, 0))
set_option maxRecDepth 100000 in
theorem spec_ConnectedColours_ac (k : Nat) (p0 : Col) (r : List Int × Int) (h : spec_ConnectedColours k p0 = some r) : AC Try.prog 45 [.d (.agg (colD p0))] [] (fun res H' => res = [.d (.sl none (intsD r.1)), iV r.2] ∧ H' = []) := by
  refine AC_of_body true Try.func45 rfl Try.ntmps45 (rvs := [.tmp 2, .tmp 3]) rfl rfl (fun G hG => ?_)
  have hm : G.H.length = 0 := by rw [hG]; rfl
  have hz : zeroG G.H = true := by rw [hG]; rfl
  unfold spec_ConnectedColours at h
  refine ACode_seq (ACode_region ?_)
  refine AOps_boxI 1 _ _ (.agg (colD p0)) (colD p0) rfl (colD_one _) rfl rfl rfl rfl rfl ?_
  refine AOps_q 2 _ rfl rfl rfl (QOp_assign _ _ rfl rfl) ?_
  refine AOps_q 3 _ rfl rfl rfl (QOp_assign _ _ rfl rfl) ?_
  refine AOps_nil ?_
  refine ACode_seq ?_
  refine ACode_seq (ACode_region ?_)
  refine AOps_q 6 _ rfl rfl rfl (QOp_loadN_pv _ _ _ _ _ _ rfl Try.isAgg24 Try.sizeOf24 rfl (colD_all _) (colD_length _)) ?_
  obtain ⟨r1, hr1, h⟩ := bindO h
  refine AOps_call [] 7 _ _ _ _ _ _ _ _ _ _ rfl rfl rfl rfl rfl rfl rfl Try.call67 rfl (nodupB_sound _ rfl) rfl rfl rfl (spec_l01Is_ac k p0 _ hr1) ?_
  rintro _ _ ⟨rfl, rfl⟩
  refine ⟨(fun _ h => nomatch h), (allc (trivial) (fun _ h => nomatch h)), AOps_as 7 (v' := bV r1) (H' := []) rfl rfl ?_⟩
  refine AOps_q 8 _ rfl rfl rfl (QOp_not _ _ _ rfl rfl) ?_
  refine AOps_nil ?_
  refine ACode_cond _ rfl (fun hb2 => ?_) (fun hb2 => ?_)
  · have h := iteT hb2 h
    refine ACode_seq (ACode_region ?_)
    refine AOps_q 2 _ rfl rfl rfl (QOp_assign _ _ rfl rfl) ?_
    refine AOps_q 3 _ rfl rfl rfl (QOp_assign _ _ rfl rfl) ?_
    refine AOps_nil ?_
    refine ACode_ret ?_
    cases h
    exact ⟨_, _, fun r a w h => ⟨r, h⟩, _, _, [], _, (.cons (ResV_tmp _ _ rfl) (.cons (ResV_tmp _ _ rfl) .nil)), rfl, rfl, rfl, rfl, rfl⟩
  · have h := iteF hb2 h
    refine ACode_skip ?_
    refine ACode_seq (ACode_region ?_)
    refine AOps_buildSlice 9 _ _ _ [] (intsD ([] : List Int)) _ rfl rfl rfl rfl rfl (by decide) Try.underlying38 Try.sizeOf2 (zero_of Try.typeInfo2 rfl) rfl rfl (intsD_one _) ?_
    refine AOps_q 4 _ rfl rfl rfl (QOp_assign _ _ rfl rfl) ?_
    refine AOps_nil ?_
    obtain ⟨s12, hss12, hks12⟩ := bindO h
    clear h
    refine ACode_seqJ (fun E' H' => Weak 31 G E' H' [(4, .vec 0 0)] [.vec 0 (intsD s12)]) ?_ ?_
    · have h := hss12
      clear hss12
      refine ACode_seq (ACode_region ?_)
      refine AOps_q 5 _ rfl rfl rfl (QOp_assign _ _ rfl rfl) ?_
      refine AOps_nil ?_
      refine ACode_block ?_
      refine ACode_loopW (fun k0 E H => ∃ (x3 : Int) (x4 : List Int), E = [(1, .d (.pv (colD p0) 0)), (4, .vec 0 0), (5, iV x3)] ∧ H = [.vec 0 (intsD x4)] ∧ spec_ConnectedColours_l0 k p0 k0 x3 x4 = some s12) k _ _ (Weak_keep 0 hm [1, 4, 5] [0] _ _ rfl rfl rfl) ⟨_, _, rfl, rfl, h⟩ ?_
      clear h
      rintro k0 E H ⟨x3, x4, rfl, rfl, h⟩
      cases k0 with
      | zero => cases (show (none : Option (List Int)) = some _ from h)
      | succ k0 =>
        rw [spec_ConnectedColours_l0] at h
        refine ACode_seq ?_
        refine ACode_seq (ACode_region ?_)
        refine AOps_q 10 _ rfl rfl rfl (QOp_move _ _ rfl rfl) ?_
        refine AOps_q 11 _ rfl rfl rfl (QOp_fieldAddr_pv _ _ _ _ _ 1 _ _ rfl Try.underlying24 rfl _ Try.sizeOf2 rfl rfl) ?_
        refine AOps_q 12 _ rfl rfl rfl (QOp_load_pv _ _ _ _ _ rfl Try.isAgg2 rfl rfl) ?_
        refine AOps_q 13 _ rfl rfl rfl (QOp_lss _ _ _ _ _ _ _ rfl rfl rfl) ?_
        refine AOps_nil ?_
        refine ACode_cond _ rfl (fun hb5 => ?_) (fun hb5 => ?_)
        · have h := iteT hb5 h
          refine ACode_skip ?_
          obtain ⟨s11, hss11, hks11⟩ := bindO h
          clear h
          refine ACode_seqJ (fun E' H' => Weak 31 G E' H' [(1, .d (.pv (colD p0) 0)), (4, .vec 0 0), (5, iV x3)] [.vec 0 (intsD s11)]) ?_ ?_
          · have h := hss11
            clear hss11
            refine ACode_block ?_
            obtain ⟨hc6, h⟩ := guardO h
            obtain ⟨r7, hr7, h⟩ := bindO h
            obtain ⟨r8, hr8, h⟩ := bindO h
            refine ACode_seqJ (fun E' H' => Weak 31 G E' H' [(1, .d (.pv (colD p0) 0)), (4, .vec 0 0), (5, iV x3), (25, bV (decide (r8 = w64 ((bShl .i64 1 (IntKind.u64.wrap p0.p)) - 1))))] [.vec 0 (intsD x4)]) ?_ ?_
            · refine ACode_any mixed ?_
              refine AAny_q 0 16 _ rfl (by kernel_rfl) rfl rfl rfl (QOp_loadN_pv _ _ _ _ _ _ rfl Try.isAgg24 Try.sizeOf24 rfl (colD_all _) (colD_length _)) ?_
              refine AAny_q 1 17 _ rfl (by kernel_rfl) rfl rfl rfl (QOp_move _ _ rfl rfl) ?_
              refine AAny_q 4 20 _ rfl (by kernel_rfl) rfl rfl rfl (QOp_fieldAddr_pv _ _ _ _ _ 0 _ _ rfl Try.underlying24 rfl _ Try.sizeOf2 rfl rfl) ?_
              refine AAny_q 5 21 _ rfl (by kernel_rfl) rfl rfl rfl (QOp_load_pv _ _ _ _ _ rfl Try.isAgg2 rfl rfl) ?_
              refine AAny_q 6 22 _ rfl (by kernel_rfl) rfl rfl rfl (QOp_conv _ _ _ _ _ _ rfl rfl Try.underlying76 rfl) ?_
              refine AAny_q 7 23 _ rfl (by kernel_rfl) rfl rfl rfl (QOp_shl _ _ _ _ _ _ _ _ hc6 rfl rfl rfl) ?_
              refine AAny_q 8 24 _ rfl (by kernel_rfl) rfl rfl rfl (QOp_sub _ _ _ _ _ _ _ rfl rfl rfl) ?_
              refine AAny_all [2] (by kernel_rfl) rfl (allc ?_ (fun _ h => nomatch h))
              · refine AStep_call 2 18 _ _ _ _ _ _ _ _ _ rfl rfl rfl rfl rfl rfl rfl rfl Try.call93 rfl rfl rfl (spec_l02Rows_ac k p0 x3 _ hr7) ?_
                rintro _ _ ⟨rfl, rfl⟩
                refine ⟨(allc (intsD_flat _) (fun _ h => nomatch h)), (allc (trivial) (fun _ h => nomatch h)), AAny_as 18 (v' := .vec 1 0) (H' := [.vec 0 (intsD x4), .vec 0 (intsD r7)]) rfl rfl ?_⟩
                refine AAny_call 3 19 _ _ _ _ _ _ _ _ _ rfl (by kernel_rfl) rfl rfl rfl rfl rfl rfl rfl Try.call92 rfl rfl rfl (spec_l04Component_ac k r7 0 _ hr8) ?_
                refine AAny_q 9 25 _ rfl (by kernel_rfl) rfl rfl rfl (QOp_eql _ _ _ _ _ _ _ rfl rfl rfl) ?_
                refine AAny_done (by kernel_rfl) ?_
                exact Weak_keep 0 hm [1, 4, 5, 25] [0] _ _ rfl rfl rfl
            intro E' H' hw
            refine ACode_weak hw ?_
            refine ACode_cond _ rfl (fun hb9 => ?_) (fun hb9 => ?_)
            · have h := iteT hb9 h
              refine (ACode_region ?_)
              refine AOps_q 26 _ rfl rfl rfl (QOp_move _ _ rfl rfl) ?_
              refine AOps_q 27 _ rfl rfl rfl (QOp_move _ _ rfl rfl) ?_
              refine AOps_buildSlice 28 _ _ _ [_] (intsD ([x3])) _ rfl rfl rfl rfl rfl (by decide) Try.underlying38 Try.sizeOf2 (zero_of Try.typeInfo2 rfl) rfl rfl (intsD_one _) ?_
              obtain ⟨hc10, h⟩ := guardO h
              refine AOps_append 29 _ _ _ _ _ _ _ _ _ _ _ _ rfl rfl rfl rfl rfl rfl rfl Try.underlying38 Try.type2 rfl rfl rfl (by decide) rfl rfl rfl rfl (intsD_one _) (by rw [intsD_length, intsD_length]; exact hc10) ?_
              rw [intsD_app]
              refine AOps_q 4 _ rfl rfl rfl (QOp_assign _ _ rfl rfl) ?_
              refine AOps_nil ?_
              cases h
              exact Weak_trans (Weak_keep 0 hm [1, 4, 5] [0] _ _ rfl rfl rfl) (Weak_reset 0 hm hz [1, 4, 5] _ _ rfl rfl)
            · have h := iteF hb9 h
              refine ACode_skip ?_
              cases h
              exact Weak_keep 0 hm [1, 4, 5] [0] _ _ rfl rfl rfl
          intro E' H' hw
          refine ACode_weak hw ?_
          have h := hks11
          refine (ACode_region ?_)
          refine AOps_q 14 _ rfl rfl rfl (QOp_move _ _ rfl rfl) ?_
          refine AOps_q 15 _ rfl rfl rfl (QOp_add _ _ _ _ _ _ _ rfl rfl rfl) ?_
          refine AOps_q 5 _ rfl rfl rfl (QOp_assign _ _ rfl rfl) ?_
          refine AOps_nil ?_
          exact ⟨k0, _, _, Nat.lt_succ_self _, Weak_keep 0 hm [1, 4, 5] [0] _ _ rfl rfl rfl, _, _, rfl, rfl, h⟩
        · have h := iteF hb5 h
          refine ACode_exit ?_
          cases h
          exact Weak_keep 0 hm [4] [0] _ _ rfl rfl rfl
    intro E' H' hw
    refine ACode_weak hw ?_
    have h := hks12
    refine ACode_seq (ACode_region ?_)
    refine AOps_q 30 _ rfl rfl rfl (QOp_move _ _ rfl rfl) ?_
    refine AOps_q 2 _ rfl rfl rfl (QOp_assign _ _ rfl rfl) ?_
    refine AOps_q 3 _ rfl rfl rfl (QOp_assign _ _ rfl rfl) ?_
    refine AOps_nil ?_
    refine ACode_ret ?_
    cases h
    exact ⟨_, _, fun r a w h => ⟨r, h⟩, _, _, [], _, (.cons (ResV_tmp _ _ rfl) (.cons (ResV_tmp _ _ rfl) .nil)), rfl, rfl, rfl, rfl, rfl⟩

-- loop.example/g01362/impl.always
def impl_always : Bool :=
  true
set_option maxRecDepth 100000 in
theorem impl_always_ac : AC Try.prog 69 [] [] (fun res H' => res = [bV (impl_always)] ∧ H' = []) := by
  refine AC_of_body true Try.func69 rfl Try.ntmps69 (rvs := [.tmp 0]) rfl rfl (fun G hG => ?_)
  have hm : G.H.length = 0 := by rw [hG]; rfl
  have hz : zeroG G.H = true := by rw [hG]; rfl
  obtain ⟨r, h⟩ : ∃ r, impl_always = r := ⟨_, rfl⟩
  rw [h]
  unfold impl_always at h
  refine ACode_seq (ACode_region ?_)
  refine AOps_q 0 _ rfl rfl rfl (QOp_assign _ _ rfl rfl) ?_
  refine AOps_nil ?_
  refine ACode_seq (ACode_region ?_)
  refine AOps_q 0 _ rfl rfl rfl (QOp_assign _ _ rfl rfl) ?_
  refine AOps_nil ?_
  refine ACode_ret ?_
  cases h
  exact ⟨_, _, fun r a w h => ⟨r, h⟩, _, _, [], _, (.cons (ResV_tmp _ _ rfl) .nil), rfl, rfl, rfl, rfl, rfl⟩

-- math/bits.Mul64
def math_bits_Mul64 (p0 : Int) (p1 : Int) : Int × Int :=
  (IntKind.u64.wrap ((IntKind.u64.wrap ((IntKind.u64.wrap ((bShr .u64 p0 32) * (bShr .u64 p1 32))) + (bShr .u64 (IntKind.u64.wrap ((IntKind.u64.wrap ((bShr .u64 p0 32) * (bAnd .u64 p1 4294967295))) + (bShr .u64 (IntKind.u64.wrap ((bAnd .u64 p0 4294967295) * (bAnd .u64 p1 4294967295))) 32))) 32))) + (bShr .u64 (IntKind.u64.wrap ((bAnd .u64 (IntKind.u64.wrap ((IntKind.u64.wrap ((bShr .u64 p0 32) * (bAnd .u64 p1 4294967295))) + (bShr .u64 (IntKind.u64.wrap ((bAnd .u64 p0 4294967295) * (bAnd .u64 p1 4294967295))) 32))) 4294967295) + (IntKind.u64.wrap ((bAnd .u64 p0 4294967295) * (bShr .u64 p1 32))))) 32)), IntKind.u64.wrap (p0 * p1))
set_option maxRecDepth 100000 in
theorem math_bits_Mul64_ac (p0 : Int) (p1 : Int) : AC Try.prog 138 [.d (.s (.int .u64 p0)), .d (.s (.int .u64 p1))] [] (fun res H' => res = [.d (.s (.int .u64 ((math_bits_Mul64 p0 p1).1))), .d (.s (.int .u64 ((math_bits_Mul64 p0 p1).2)))] ∧ H' = []) := by
  refine AC_of_body true Try.func138 rfl Try.ntmps138 (rvs := [.tmp 4, .tmp 5]) rfl rfl (fun G hG => ?_)
  have hm : G.H.length = 0 := by rw [hG]; rfl
  have hz : zeroG G.H = true := by rw [hG]; rfl
  obtain ⟨r, h⟩ : ∃ r, math_bits_Mul64 p0 p1 = r := ⟨_, rfl⟩
  rw [h]
  unfold math_bits_Mul64 at h
  refine ACode_seq (ACode_region ?_)
  refine AOps_q 4 _ rfl rfl rfl (QOp_assign _ _ rfl rfl) ?_
  refine AOps_q 5 _ rfl rfl rfl (QOp_assign _ _ rfl rfl) ?_
  refine AOps_nil ?_
  refine ACode_seq (ACode_region ?_)
  refine AOps_q 14 _ rfl rfl rfl (QOp_move _ _ rfl rfl) ?_
  refine AOps_q 15 _ rfl rfl rfl (QOp_and _ _ _ _ _ _ _ rfl rfl rfl) ?_
  refine AOps_q 6 _ rfl rfl rfl (QOp_assign _ _ rfl rfl) ?_
  refine AOps_nil ?_
  refine ACode_seq (ACode_region ?_)
  refine AOps_q 16 _ rfl rfl rfl (QOp_move _ _ rfl rfl) ?_
  refine AOps_q 17 _ rfl rfl rfl (QOp_shr _ _ _ _ _ _ _ _ (by decide) rfl rfl rfl) ?_
  refine AOps_q 7 _ rfl rfl rfl (QOp_assign _ _ rfl rfl) ?_
  refine AOps_nil ?_
  refine ACode_seq (ACode_region ?_)
  refine AOps_q 18 _ rfl rfl rfl (QOp_move _ _ rfl rfl) ?_
  refine AOps_q 19 _ rfl rfl rfl (QOp_and _ _ _ _ _ _ _ rfl rfl rfl) ?_
  refine AOps_q 8 _ rfl rfl rfl (QOp_assign _ _ rfl rfl) ?_
  refine AOps_nil ?_
  refine ACode_seq (ACode_region ?_)
  refine AOps_q 20 _ rfl rfl rfl (QOp_move _ _ rfl rfl) ?_
  refine AOps_q 21 _ rfl rfl rfl (QOp_shr _ _ _ _ _ _ _ _ (by decide) rfl rfl rfl) ?_
  refine AOps_q 9 _ rfl rfl rfl (QOp_assign _ _ rfl rfl) ?_
  refine AOps_nil ?_
  refine ACode_seq (ACode_region ?_)
  refine AOps_q 22 _ rfl rfl rfl (QOp_move _ _ rfl rfl) ?_
  refine AOps_q 23 _ rfl rfl rfl (QOp_move _ _ rfl rfl) ?_
  refine AOps_q 24 _ rfl rfl rfl (QOp_mul _ _ _ _ _ _ _ rfl rfl rfl) ?_
  refine AOps_q 10 _ rfl rfl rfl (QOp_assign _ _ rfl rfl) ?_
  refine AOps_nil ?_
  refine ACode_seq (ACode_region ?_)
  refine AOps_q 25 _ rfl rfl rfl (QOp_move _ _ rfl rfl) ?_
  refine AOps_q 26 _ rfl rfl rfl (QOp_move _ _ rfl rfl) ?_
  refine AOps_q 27 _ rfl rfl rfl (QOp_mul _ _ _ _ _ _ _ rfl rfl rfl) ?_
  refine AOps_q 28 _ rfl rfl rfl (QOp_move _ _ rfl rfl) ?_
  refine AOps_q 29 _ rfl rfl rfl (QOp_shr _ _ _ _ _ _ _ _ (by decide) rfl rfl rfl) ?_
  refine AOps_q 30 _ rfl rfl rfl (QOp_add _ _ _ _ _ _ _ rfl rfl rfl) ?_
  refine AOps_q 11 _ rfl rfl rfl (QOp_assign _ _ rfl rfl) ?_
  refine AOps_nil ?_
  refine ACode_seq (ACode_region ?_)
  refine AOps_q 31 _ rfl rfl rfl (QOp_move _ _ rfl rfl) ?_
  refine AOps_q 32 _ rfl rfl rfl (QOp_and _ _ _ _ _ _ _ rfl rfl rfl) ?_
  refine AOps_q 12 _ rfl rfl rfl (QOp_assign _ _ rfl rfl) ?_
  refine AOps_nil ?_
  refine ACode_seq (ACode_region ?_)
  refine AOps_q 33 _ rfl rfl rfl (QOp_move _ _ rfl rfl) ?_
  refine AOps_q 34 _ rfl rfl rfl (QOp_shr _ _ _ _ _ _ _ _ (by decide) rfl rfl rfl) ?_
  refine AOps_q 13 _ rfl rfl rfl (QOp_assign _ _ rfl rfl) ?_
  refine AOps_nil ?_
  refine ACode_seq (ACode_region ?_)
  refine AOps_q 35 _ rfl rfl rfl (QOp_move _ _ rfl rfl) ?_
  refine AOps_q 36 _ rfl rfl rfl (QOp_move _ _ rfl rfl) ?_
  refine AOps_q 37 _ rfl rfl rfl (QOp_move _ _ rfl rfl) ?_
  refine AOps_q 38 _ rfl rfl rfl (QOp_mul _ _ _ _ _ _ _ rfl rfl rfl) ?_
  refine AOps_q 39 _ rfl rfl rfl (QOp_add _ _ _ _ _ _ _ rfl rfl rfl) ?_
  refine AOps_q 12 _ rfl rfl rfl (QOp_assign _ _ rfl rfl) ?_
  refine AOps_nil ?_
  refine ACode_seq (ACode_region ?_)
  refine AOps_q 40 _ rfl rfl rfl (QOp_move _ _ rfl rfl) ?_
  refine AOps_q 41 _ rfl rfl rfl (QOp_move _ _ rfl rfl) ?_
  refine AOps_q 42 _ rfl rfl rfl (QOp_mul _ _ _ _ _ _ _ rfl rfl rfl) ?_
  refine AOps_q 43 _ rfl rfl rfl (QOp_move _ _ rfl rfl) ?_
  refine AOps_q 44 _ rfl rfl rfl (QOp_add _ _ _ _ _ _ _ rfl rfl rfl) ?_
  refine AOps_q 45 _ rfl rfl rfl (QOp_move _ _ rfl rfl) ?_
  refine AOps_q 46 _ rfl rfl rfl (QOp_shr _ _ _ _ _ _ _ _ (by decide) rfl rfl rfl) ?_
  refine AOps_q 47 _ rfl rfl rfl (QOp_add _ _ _ _ _ _ _ rfl rfl rfl) ?_
  refine AOps_q 4 _ rfl rfl rfl (QOp_assign _ _ rfl rfl) ?_
  refine AOps_nil ?_
  refine ACode_seq (ACode_region ?_)
  refine AOps_q 48 _ rfl rfl rfl (QOp_move _ _ rfl rfl) ?_
  refine AOps_q 49 _ rfl rfl rfl (QOp_move _ _ rfl rfl) ?_
  refine AOps_q 50 _ rfl rfl rfl (QOp_mul _ _ _ _ _ _ _ rfl rfl rfl) ?_
  refine AOps_q 5 _ rfl rfl rfl (QOp_assign _ _ rfl rfl) ?_
  refine AOps_nil ?_
  refine ACode_ret ?_
  cases h
  exact ⟨_, _, fun r a w h => ⟨r, h⟩, _, _, [], _, (.cons (ResV_tmp _ _ rfl) (.cons (ResV_tmp _ _ rfl) .nil)), rfl, rfl, rfl, rfl, rfl⟩

-- math/bits.Mul
def math_bits_Mul (p0 : Int) (p1 : Int) : Int × Int :=
  ((math_bits_Mul64 p0 p1).1, (math_bits_Mul64 p0 p1).2)
set_option maxRecDepth 100000 in
theorem math_bits_Mul_ac (p0 : Int) (p1 : Int) : AC Try.prog 131 [.d (.s (.int .u64 p0)), .d (.s (.int .u64 p1))] [] (fun res H' => res = [.d (.s (.int .u64 ((math_bits_Mul p0 p1).1))), .d (.s (.int .u64 ((math_bits_Mul p0 p1).2)))] ∧ H' = []) := by
  refine AC_of_body true Try.func131 rfl Try.ntmps131 (rvs := [.tmp 4, .tmp 5]) rfl rfl (fun G hG => ?_)
  have hm : G.H.length = 0 := by rw [hG]; rfl
  have hz : zeroG G.H = true := by rw [hG]; rfl
  obtain ⟨r, h⟩ : ∃ r, math_bits_Mul p0 p1 = r := ⟨_, rfl⟩
  rw [h]
  unfold math_bits_Mul at h
  refine ACode_seq (ACode_region ?_)
  refine AOps_q 4 _ rfl rfl rfl (QOp_assign _ _ rfl rfl) ?_
  refine AOps_q 5 _ rfl rfl rfl (QOp_assign _ _ rfl rfl) ?_
  refine AOps_nil ?_
  refine ACode_seq ?_
  refine ACode_condF rfl ?_
  refine ACode_skip ?_
  refine ACode_seq (ACode_region ?_)
  refine AOps_q 23 _ rfl rfl rfl (QOp_move _ _ rfl rfl) ?_
  refine AOps_q 24 _ rfl rfl rfl (QOp_move _ _ rfl rfl) ?_
  refine AOps_call [] 25 _ _ _ _ _ _ _ _ _ _ rfl rfl rfl rfl rfl rfl rfl Try.call138 rfl (nodupB_sound _ rfl) rfl rfl rfl (math_bits_Mul64_ac p0 p1) ?_
  rintro _ _ ⟨rfl, rfl⟩
  refine ⟨(fun _ h => nomatch h), (allc (trivial) (allc (trivial) (fun _ h => nomatch h))), AOps_as 25 (v' := .tup [.d (.s (.int .u64 ((math_bits_Mul64 p0 p1).1))), .d (.s (.int .u64 ((math_bits_Mul64 p0 p1).2)))]) (H' := []) rfl rfl ?_⟩
  refine AOps_q 22 _ rfl rfl rfl (QOp_move _ _ rfl rfl) ?_
  refine AOps_q 26 _ rfl rfl rfl (QOp_extract _ _ _ _ rfl rfl rfl) ?_
  refine AOps_q 27 _ rfl rfl rfl (QOp_extract _ _ _ _ rfl rfl rfl) ?_
  refine AOps_q 8 _ rfl rfl rfl (QOp_assign _ _ rfl rfl) ?_
  refine AOps_q 9 _ rfl rfl rfl (QOp_assign _ _ rfl rfl) ?_
  refine AOps_nil ?_
  refine ACode_seq (ACode_region ?_)
  refine AOps_q 28 _ rfl rfl rfl (QOp_move _ _ rfl rfl) ?_
  refine AOps_q 29 _ rfl rfl rfl (QOp_move _ _ rfl rfl) ?_
  refine AOps_q 4 _ rfl rfl rfl (QOp_assign _ _ rfl rfl) ?_
  refine AOps_q 5 _ rfl rfl rfl (QOp_assign _ _ rfl rfl) ?_
  refine AOps_nil ?_
  refine ACode_ret ?_
  cases h
  exact ⟨_, _, fun r a w h => ⟨r, h⟩, _, _, [], _, (.cons (ResV_tmp _ _ rfl) (.cons (ResV_tmp _ _ rfl) .nil)), rfl, rfl, rfl, rfl, rfl⟩

-- slices.Repeat[[]int64,int64]
def slices_Repeat_l0 : Nat → Int → (List Int) → Option (List Int)
  | 0, _, _ => none
  | k0 + 1, x9, x10 => (if decide (x9 < (x10.length : Int)) then (if 0 ≤ x9 ∧ x9 ≤ ((x10.length : Nat) : Int) ∧ ((x10.length : Nat) : Int) ≤ ((x10.length : Nat) : Int) then (if 0 ≤ 0 ∧ 0 ≤ x9 ∧ x9 ≤ ((x10.length : Nat) : Int) then slices_Repeat_l0 k0 (w64 (x9 + ((min ((x10.drop 0).take (x9.toNat - 0)).length ((x10.length - x9.toNat)) : Nat) : Int))) (splicedL x10 x9.toNat ((x10.length - x9.toNat)) ((x10.drop 0).take (x9.toNat - 0))) else none) else none) else some x10)
def slices_Repeat (k : Nat) (p0 : List Int) (p1 : Int) : Option (List Int) :=
  ((if decide (p1 < 0) then none else some ()) : Option (Unit)).bind fun s2 => (letO (if decide (0 < (math_bits_Mul (IntKind.u64.wrap (p0.length : Int)) (IntKind.u64.wrap p1)).1) then true else decide (9223372036854775807 < (math_bits_Mul (IntKind.u64.wrap (p0.length : Int)) (IntKind.u64.wrap p1)).2)) fun (s5 : Bool) => (if s5 then none else some ()) : Option (Unit)).bind fun s7 => (if 0 ≤ w64 ((math_bits_Mul (IntKind.u64.wrap (p0.length : Int)) (IntKind.u64.wrap p1)).2) ∧ w64 ((math_bits_Mul (IntKind.u64.wrap (p0.length : Int)) (IntKind.u64.wrap p1)).2) ≤ w64 ((math_bits_Mul (IntKind.u64.wrap (p0.length : Int)) (IntKind.u64.wrap p1)).2) ∧ w64 ((math_bits_Mul (IntKind.u64.wrap (p0.length : Int)) (IntKind.u64.wrap p1)).2) ≤ 1099511627776 then (slices_Repeat_l0 k ((min p0.length ((List.replicate (w64 ((math_bits_Mul (IntKind.u64.wrap (p0.length : Int)) (IntKind.u64.wrap p1)).2)).toNat (0 : Int)).length) : Nat) : Int) (splicedL (List.replicate (w64 ((math_bits_Mul (IntKind.u64.wrap (p0.length : Int)) (IntKind.u64.wrap p1)).2)).toNat (0 : Int)) 0 ((List.replicate (w64 ((math_bits_Mul (IntKind.u64.wrap (p0.length : Int)) (IntKind.u64.wrap p1)).2)).toNat (0 : Int)).length) p0) : Option (List Int)).bind fun s16 => some s16 else none)
set_option maxRecDepth 100000 in
theorem slices_Repeat_ac (k : Nat) (p0 : List Int) (p1 : Int) (r : List Int) (h : slices_Repeat k p0 p1 = some r) : AC Try.prog 120 [.d (.sl none (intsD p0)), iV p1] [] (fun res H' => res = [.vec 0 0] ∧ H' = [.vec 0 (intsD r)]) := by
  refine AC_of_body true Try.func120 rfl Try.ntmps120 (rvs := [.tmp 4]) rfl rfl (fun G hG => ?_)
  have hm : G.H.length = 0 := by rw [hG]; rfl
  have hz : zeroG G.H = true := by rw [hG]; rfl
  unfold slices_Repeat at h
  refine ACode_seq (ACode_region ?_)
  refine AOps_q 4 _ rfl rfl rfl (QOp_assign _ _ rfl rfl) ?_
  refine AOps_nil ?_
  obtain ⟨s2, hss2, hks2⟩ := bindO h
  clear h
  refine ACode_seqJ (fun E' H' => Weak 48 G E' H' [(0, .d (.sl none (intsD p0))), (1, iV p1)] []) ?_ ?_
  · have h := hss2
    clear hss2
    refine ACode_seq (ACode_region ?_)
    refine AOps_q 9 _ rfl rfl rfl (QOp_move _ _ rfl rfl) ?_
    refine AOps_q 10 _ rfl rfl rfl (QOp_lss _ _ _ _ _ _ _ rfl rfl rfl) ?_
    refine AOps_nil ?_
    refine ACode_cond _ rfl (fun hb1 => ?_) (fun hb1 => ?_)
    · have h := iteT hb1 h
      refine (ACode_region ?_)
      cases h
    · have h := iteF hb1 h
      refine ACode_skip ?_
      cases h
      exact Weak_keep 0 hm [0, 1] [] _ _ rfl rfl rfl
  intro E' H' hw
  refine ACode_weak hw ?_
  have h := hks2
  refine ACode_seq (ACode_region ?_)
  refine AOps_q 13 _ rfl rfl rfl (QOp_move _ _ rfl rfl) ?_
  refine AOps_q 14 _ rfl rfl rfl (QOp_len_sl _ _ _ _ _ _ _ (intsD_length _) rfl rfl rfl rfl Try.underlying38 rfl) ?_
  refine AOps_q 15 _ rfl rfl rfl (QOp_conv _ _ _ _ _ _ rfl rfl Try.underlying112 rfl) ?_
  refine AOps_q 16 _ rfl rfl rfl (QOp_move _ _ rfl rfl) ?_
  refine AOps_q 17 _ rfl rfl rfl (QOp_conv _ _ _ _ _ _ rfl rfl Try.underlying112 rfl) ?_
  refine AOps_call [] 18 _ _ _ _ _ _ _ _ _ _ rfl rfl rfl rfl rfl rfl rfl Try.call131 rfl (nodupB_sound _ rfl) rfl rfl rfl (math_bits_Mul_ac (IntKind.u64.wrap (p0.length : Int)) (IntKind.u64.wrap p1)) ?_
  rintro _ _ ⟨rfl, rfl⟩
  refine ⟨(fun _ h => nomatch h), (allc (trivial) (allc (trivial) (fun _ h => nomatch h))), AOps_as 18 (v' := .tup [.d (.s (.int .u64 ((math_bits_Mul (IntKind.u64.wrap (p0.length : Int)) (IntKind.u64.wrap p1)).1))), .d (.s (.int .u64 ((math_bits_Mul (IntKind.u64.wrap (p0.length : Int)) (IntKind.u64.wrap p1)).2)))]) (H' := []) rfl rfl ?_⟩
  refine AOps_q 12 _ rfl rfl rfl (QOp_move _ _ rfl rfl) ?_
  refine AOps_q 19 _ rfl rfl rfl (QOp_extract _ _ _ _ rfl rfl rfl) ?_
  refine AOps_q 20 _ rfl rfl rfl (QOp_extract _ _ _ _ rfl rfl rfl) ?_
  refine AOps_q 5 _ rfl rfl rfl (QOp_assign _ _ rfl rfl) ?_
  refine AOps_q 6 _ rfl rfl rfl (QOp_assign _ _ rfl rfl) ?_
  refine AOps_nil ?_
  obtain ⟨s7, hss7, hks7⟩ := bindO h
  clear h
  refine ACode_seqJ (fun E' H' => Weak 48 G E' H' [(0, .d (.sl none (intsD p0))), (6, .d (.s (.int .u64 ((math_bits_Mul (IntKind.u64.wrap (p0.length : Int)) (IntKind.u64.wrap p1)).2))))] []) ?_ ?_
  · have h := hss7
    clear hss7
    obtain ⟨s5, hss5, hks5⟩ := letS h
    clear h
    refine ACode_seqJ (fun E' H' => Weak 48 G E' H' [(0, .d (.sl none (intsD p0))), (6, .d (.s (.int .u64 ((math_bits_Mul (IntKind.u64.wrap (p0.length : Int)) (IntKind.u64.wrap p1)).2)))), (26, bV s5)] []) ?_ ?_
    · have h := hss5
      clear hss5
      refine (ACode_region ?_)
      refine AOps_q 21 _ rfl rfl rfl (QOp_move _ _ rfl rfl) ?_
      refine AOps_q 22 _ rfl rfl rfl (QOp_gtr _ _ _ _ _ _ _ rfl rfl rfl) ?_
      refine AOps_q 23 _ rfl rfl rfl (QOp_move _ _ rfl rfl) ?_
      refine AOps_case 23 _ rfl (fun hb4 => ?_) (fun hb4 => ?_)
      · have h := iteT hb4 h
        refine AOps_skip 24 rfl rfl rfl ?_
        refine AOps_skip 25 rfl rfl rfl ?_
        refine AOps_q 26 _ rfl rfl rfl (QOp_pick_t _ _ _ _ rfl rfl rfl) ?_
        refine AOps_nil ?_
        cases h
        exact Weak_keep 0 hm [0, 6, 26] [] _ _ rfl rfl rfl
      · have h := iteF hb4 h
        refine AOps_q 24 _ rfl rfl rfl (QOp_move _ _ rfl rfl) ?_
        refine AOps_q 25 _ rfl rfl rfl (QOp_gtr _ _ _ _ _ _ _ rfl rfl rfl) ?_
        refine AOps_q 26 _ rfl rfl rfl (QOp_pick_f _ _ _ _ rfl rfl rfl) ?_
        refine AOps_nil ?_
        cases h
        exact Weak_keep 0 hm [0, 6, 26] [] _ _ rfl rfl rfl
    intro E' H' hw
    refine ACode_weak hw ?_
    have h := hks5
    refine ACode_cond _ rfl (fun hb6 => ?_) (fun hb6 => ?_)
    · have h := iteT hb6 h
      refine (ACode_region ?_)
      cases h
    · have h := iteF hb6 h
      refine ACode_skip ?_
      cases h
      exact Weak_keep 0 hm [0, 6] [] _ _ rfl rfl rfl
  intro E' H' hw
  refine ACode_weak hw ?_
  have h := hks7
  refine ACode_seq (ACode_region ?_)
  refine AOps_q 28 _ rfl rfl rfl (QOp_move _ _ rfl rfl) ?_
  refine AOps_q 29 _ rfl rfl rfl (QOp_conv _ _ _ _ _ _ rfl rfl Try.underlying3 rfl) ?_
  obtain ⟨hc8, h⟩ := guardO h
  refine AOps_makeSliceG intsD iD 0 (intsD_rep · _) 30 _ _ _ _ _ _ (w64 ((math_bits_Mul (IntKind.u64.wrap (p0.length : Int)) (IntKind.u64.wrap p1)).2)) (w64 ((math_bits_Mul (IntKind.u64.wrap (p0.length : Int)) (IntKind.u64.wrap p1)).2)) _ (.int .i64 0) rfl rfl rfl rfl rfl rfl Try.underlying38 Try.type2 rfl rfl (by decide) rfl rfl hc8.1 hc8.2.1 hc8.2.2 ?_
  refine AOps_q 7 _ rfl rfl rfl (QOp_assign _ _ rfl rfl) ?_
  refine AOps_nil ?_
  refine ACode_seq (ACode_region ?_)
  refine AOps_q 31 _ rfl rfl rfl (QOp_move _ _ rfl rfl) ?_
  refine AOps_q 32 _ rfl rfl rfl (QOp_move _ _ rfl rfl) ?_
  refine AOps_copy 33 _ _ _ _ _ _ _ 0 0 0 _ ((List.replicate (w64 ((math_bits_Mul (IntKind.u64.wrap (p0.length : Int)) (IntKind.u64.wrap p1)).2)).toNat (0 : Int)).length) _ (intsD (List.replicate (w64 ((math_bits_Mul (IntKind.u64.wrap (p0.length : Int)) (IntKind.u64.wrap p1)).2)).toNat (0 : Int))) (intsD p0) rfl rfl rfl rfl rfl rfl rfl Try.underlying38 (by kernel_rfl) rfl rfl (intsD_length _) rfl rfl rfl (intsD_one _) (min p0.length ((List.replicate (w64 ((math_bits_Mul (IntKind.u64.wrap (p0.length : Int)) (IntKind.u64.wrap p1)).2)).toNat (0 : Int)).length)) (by rw [intsD_length]) ?_
  rw [intsD_spl]
  refine AOps_q 8 _ rfl rfl rfl (QOp_assign _ _ rfl rfl) ?_
  refine AOps_nil ?_
  obtain ⟨s16, hss16, hks16⟩ := bindO h
  clear h
  refine ACode_seqJ (fun E' H' => Weak 48 G E' H' [(7, .vec 0 0)] [.vec 0 (intsD s16)]) ?_ ?_
  · have h := hss16
    clear hss16
    refine ACode_block ?_
    refine ACode_loopW (fun k0 E H => ∃ (x9 : Int) (x10 : List Int), E = [(7, .vec 0 0), (8, iV x9)] ∧ H = [.vec 0 (intsD x10)] ∧ slices_Repeat_l0 k0 x9 x10 = some s16) k _ _ (Weak_keep 0 hm [7, 8] [0] _ _ rfl rfl rfl) ⟨_, _, rfl, rfl, h⟩ ?_
    clear h
    rintro k0 E H ⟨x9, x10, rfl, rfl, h⟩
    cases k0 with
    | zero => cases (show (none : Option (List Int)) = some _ from h)
    | succ k0 =>
      rw [slices_Repeat_l0] at h
      refine ACode_seq ?_
      refine ACode_seq (ACode_region ?_)
      refine AOps_q 34 _ rfl rfl rfl (QOp_move _ _ rfl rfl) ?_
      refine AOps_q 35 _ rfl rfl rfl (QOp_move _ _ rfl rfl) ?_
      refine AOps_q 36 _ rfl rfl rfl (QOp_len_vec _ _ _ _ _ _ _ _ (intsD_length _) rfl rfl rfl rfl Try.underlying38 rfl rfl) ?_
      refine AOps_q 37 _ rfl rfl rfl (QOp_lss _ _ _ _ _ _ _ rfl rfl rfl) ?_
      refine AOps_nil ?_
      refine ACode_cond _ rfl (fun hb11 => ?_) (fun hb11 => ?_)
      · have h := iteT hb11 h
        refine ACode_skip ?_
        refine ACode_block ?_
        refine ACode_anyU mixed ?_
        refine AU_u 0 38 _ rfl (by kernel_rfl) rfl rfl rfl (UOp_move _ _ rfl rfl) ?_
        refine AU_u 1 39 _ rfl (by kernel_rfl) rfl rfl rfl (UOp_move _ _ rfl rfl) ?_
        refine AU_u 2 40 _ rfl (by kernel_rfl) rfl rfl rfl (UOp_move _ _ rfl rfl) ?_
        obtain ⟨hc13, h⟩ := guardO h
        refine AU_u 3 41 _ rfl (by kernel_rfl) rfl rfl rfl (UOp_cut _ _ _ _ _ _ _ _ _ _ _ (x9.toNat) (x10.length) rfl Try.underlying38 Try.sizeOf2 rfl rfl rfl (by exact ⟨_, by rw [Int.toNat_of_nonneg (by omega)]; rfl⟩) (intsD_length _).symm (by omega) (by rw [intsD_length]; omega) _ (Nat.zero_add _) _ rfl) ?_
        refine AU_u 4 42 _ rfl (by kernel_rfl) rfl rfl rfl (UOp_move _ _ rfl rfl) ?_
        refine AU_u 5 43 _ rfl (by kernel_rfl) rfl rfl rfl (UOp_move _ _ rfl rfl) ?_
        obtain ⟨hc15, h⟩ := guardO h
        refine AU_u 6 44 _ rfl (by kernel_rfl) rfl rfl rfl (UOp_cut _ _ _ _ _ _ _ _ _ _ _ (0) (x9.toNat) rfl Try.underlying38 Try.sizeOf2 rfl rfl rfl rfl (by exact ⟨_, by rw [Int.toNat_of_nonneg (by omega)]; rfl⟩) (by omega) (by rw [intsD_length]; omega) _ (Nat.zero_add _) _ rfl) ?_
        refine AU_all [7] (by kernel_rfl) rfl (allc ?_ (fun _ h => nomatch h))
        refine US_of 7 rfl rfl ?_
        refine AOps_copy 45 _ _ _ _ _ _ _ 0 0 x9.toNat _ ((x10.length - x9.toNat)) _ (intsD x10) (intsD ((x10.drop 0).take (x9.toNat - 0))) rfl rfl rfl rfl rfl rfl rfl Try.underlying38 (by kernel_rfl) rfl rfl rfl rfl rfl (by rw [intsD_dt]; rfl) (intsD_one _) (min ((x10.drop 0).take (x9.toNat - 0)).length ((x10.length - x9.toNat))) (by rw [intsD_length]) ?_
        rw [intsD_spl]
        refine AOps_nil ?_
        refine AU_u 8 46 _ rfl (by kernel_rfl) rfl rfl rfl (UOp_add _ _ _ _ _ _ _ rfl rfl rfl) ?_
        refine AU_u 9 8 _ rfl (by kernel_rfl) rfl rfl rfl (UOp_assign _ _ rfl rfl) ?_
        refine AU_done (by kernel_rfl) ?_
        exact ⟨k0, _, _, Nat.lt_succ_self _, Weak_keep 0 hm [7, 8] [0] _ _ rfl rfl rfl, _, _, rfl, rfl, h⟩
      · have h := iteF hb11 h
        refine ACode_exit ?_
        cases h
        exact Weak_keep 0 hm [7] [0] _ _ rfl rfl rfl
  intro E' H' hw
  refine ACode_weak hw ?_
  have h := hks16
  refine ACode_seq (ACode_region ?_)
  refine AOps_q 47 _ rfl rfl rfl (QOp_move _ _ rfl rfl) ?_
  refine AOps_q 4 _ rfl rfl rfl (QOp_assign _ _ rfl rfl) ?_
  refine AOps_nil ?_
  refine ACode_ret ?_
  cases h
  exact ⟨_, _, Weak_reset 0 hm hz [4] _ _ rfl rfl, _, _, [0], _, (.cons (ResV_tmp _ _ rfl) .nil), rfl, rfl, rfl, rfl, rfl⟩

-- (*loop.example/g01362/impl.Colouring).that
def impl_Colouring_that_l0 (p0 : Col) (p1 : Int → Option (Bool)) : Nat → Int → (List Int) → Option (List Int)
  | 0, _, _ => none
  | k0 + 1, x1, x2 => (if decide (x1 < p0.p) then ((p1 x1).bind fun r4 => (if r4 then (if x2.length + ([x1]).length ≤ 1099511627776 then some (x2 ++ ([x1])) else none) else some x2) : Option (List Int)).bind fun s7 => impl_Colouring_that_l0 p0 p1 k0 (w64 (x1 + 1)) s7 else some x2)
def impl_Colouring_that (k : Nat) (p0 : Col) (p1 : Int → Option (Bool)) : Option (List Int) :=
  (impl_Colouring_that_l0 p0 p1 k 0 ([] : List Int) : Option (List Int)).bind fun s8 => some s8
set_option maxRecDepth 100000 in
theorem impl_Colouring_that_ac (k : Nat) (p0 : Col) (p1 : Int → Option (Bool)) (g_p1 : FuncId) (c_p1 : List D) (hg_p1 : ∀ args w, (callFunc g_p1 args).run Try.prog w = .ok (.enter g_p1 args) w) (hf_p1 : ∀ (a0 : Int) (r : Bool), p1 a0 = some r → AC Try.prog g_p1 ([iV a0] ++ c_p1.map AV.d) [] (fun res H' => res = [bV r] ∧ H' = [])) (r : List Int) (h : impl_Colouring_that k p0 p1 = some r) : AC Try.prog 72 [.d (.pv (colD p0) 0), .d (.clo g_p1 c_p1)] [] (fun res H' => res = [.vec 0 0] ∧ H' = [.vec 0 (intsD r)]) := by
  refine AC_of_body true Try.func72 rfl Try.ntmps72 (rvs := [.tmp 4]) rfl rfl (fun G hG => ?_)
  have hm : G.H.length = 0 := by rw [hG]; rfl
  have hz : zeroG G.H = true := by rw [hG]; rfl
  unfold impl_Colouring_that at h
  refine ACode_seq (ACode_region ?_)
  refine AOps_q 4 _ rfl rfl rfl (QOp_assign _ _ rfl rfl) ?_
  refine AOps_nil ?_
  refine ACode_seq (ACode_region ?_)
  refine AOps_buildSlice 7 _ _ _ [] (intsD ([] : List Int)) _ rfl rfl rfl rfl rfl (by decide) Try.underlying38 Try.sizeOf2 (zero_of Try.typeInfo2 rfl) rfl rfl (intsD_one _) ?_
  refine AOps_q 5 _ rfl rfl rfl (QOp_assign _ _ rfl rfl) ?_
  refine AOps_nil ?_
  obtain ⟨s8, hss8, hks8⟩ := bindO h
  clear h
  refine ACode_seqJ (fun E' H' => Weak 24 G E' H' [(5, .vec 0 0)] [.vec 0 (intsD s8)]) ?_ ?_
  · have h := hss8
    clear hss8
    refine ACode_seq (ACode_region ?_)
    refine AOps_q 8 _ rfl rfl rfl (QOp_move _ _ rfl rfl) ?_
    refine AOps_q 9 _ rfl rfl rfl (QOp_nilCheck_pv _ _ _ rfl rfl) ?_
    refine AOps_q 10 _ rfl rfl rfl (QOp_fieldAddr_pv _ _ _ _ _ 0 _ _ rfl Try.underlying24 rfl _ Try.sizeOf2 rfl rfl) ?_
    refine AOps_q 11 _ rfl rfl rfl (QOp_load_pv _ _ _ _ _ rfl Try.isAgg2 rfl rfl) ?_
    refine AOps_q 12 _ rfl rfl rfl (QOp_move _ _ rfl rfl) ?_
    refine AOps_nil ?_
    refine ACode_block ?_
    refine ACode_loopW (fun k0 E H => ∃ (x1 : Int) (x2 : List Int), E = [(1, .d (.clo g_p1 c_p1)), (5, .vec 0 0), (11, iV p0.p), (12, iV x1)] ∧ H = [.vec 0 (intsD x2)] ∧ impl_Colouring_that_l0 p0 p1 k0 x1 x2 = some s8) k _ _ (Weak_keep 0 hm [1, 5, 11, 12] [0] _ _ rfl rfl rfl) ⟨_, _, rfl, rfl, h⟩ ?_
    clear h
    rintro k0 E H ⟨x1, x2, rfl, rfl, h⟩
    cases k0 with
    | zero => cases (show (none : Option (List Int)) = some _ from h)
    | succ k0 =>
      rw [impl_Colouring_that_l0] at h
      refine ACode_seq (ACode_region ?_)
      refine AOps_q 13 _ rfl rfl rfl (QOp_lss _ _ _ _ _ _ _ rfl rfl rfl) ?_
      refine AOps_nil ?_
      refine ACode_seq ?_
      refine ACode_cond _ rfl (fun hb3 => ?_) (fun hb3 => ?_)
      · have h := iteT hb3 h
        refine ACode_skip ?_
        obtain ⟨s7, hss7, hks7⟩ := bindO h
        clear h
        refine ACode_seqJ (fun E' H' => Weak 24 G E' H' [(1, .d (.clo g_p1 c_p1)), (5, .vec 0 0), (11, iV p0.p), (12, iV x1)] [.vec 0 (intsD s7)]) ?_ ?_
        · have h := hss7
          clear hss7
          refine ACode_block ?_
          refine ACode_seq (ACode_region ?_)
          refine AOps_q 14 _ rfl rfl rfl (QOp_move _ _ rfl rfl) ?_
          refine AOps_q 6 _ rfl rfl rfl (QOp_assign _ _ rfl rfl) ?_
          refine AOps_nil ?_
          refine ACode_seq (ACode_region ?_)
          refine AOps_q 15 _ rfl rfl rfl (QOp_move _ _ rfl rfl) ?_
          refine AOps_q 16 _ rfl rfl rfl (QOp_move _ _ rfl rfl) ?_
          obtain ⟨r4, hr4, h⟩ := bindO h
          refine AOps_call [] 17 _ _ _ _ _ _ _ _ _ _ rfl rfl rfl rfl rfl rfl rfl hg_p1 rfl (nodupB_sound _ rfl) rfl rfl (viewA_mapD _) (hf_p1 x1 _ hr4) ?_
          rintro _ _ ⟨rfl, rfl⟩
          refine ⟨(fun _ h => nomatch h), (allc (trivial) (fun _ h => nomatch h)), AOps_as 17 (v' := bV r4) (H' := [.vec 0 (intsD x2)]) rfl rfl ?_⟩
          refine AOps_nil ?_
          refine ACode_cond _ rfl (fun hb5 => ?_) (fun hb5 => ?_)
          · have h := iteT hb5 h
            refine (ACode_region ?_)
            refine AOps_q 18 _ rfl rfl rfl (QOp_move _ _ rfl rfl) ?_
            refine AOps_q 19 _ rfl rfl rfl (QOp_move _ _ rfl rfl) ?_
            refine AOps_buildSlice 20 _ _ _ [_] (intsD ([x1])) _ rfl rfl rfl rfl rfl (by decide) Try.underlying38 Try.sizeOf2 (zero_of Try.typeInfo2 rfl) rfl rfl (intsD_one _) ?_
            obtain ⟨hc6, h⟩ := guardO h
            refine AOps_append 21 _ _ _ _ _ _ _ _ _ _ _ _ rfl rfl rfl rfl rfl rfl rfl Try.underlying38 Try.type2 rfl rfl rfl (by decide) rfl rfl rfl rfl (intsD_one _) (by rw [intsD_length, intsD_length]; exact hc6) ?_
            rw [intsD_app]
            refine AOps_q 5 _ rfl rfl rfl (QOp_assign _ _ rfl rfl) ?_
            refine AOps_nil ?_
            cases h
            exact Weak_trans (Weak_keep 0 hm [1, 5, 11, 12] [0] _ _ rfl rfl rfl) (Weak_reset 0 hm hz [1, 5, 11, 12] _ _ rfl rfl)
          · have h := iteF hb5 h
            refine ACode_skip ?_
            cases h
            exact Weak_keep 0 hm [1, 5, 11, 12] [0] _ _ rfl rfl rfl
        intro E' H' hw
        refine ACode_weak hw ?_
        have h := hks7
        refine (ACode_region ?_)
        refine AOps_q 22 _ rfl rfl rfl (QOp_add _ _ _ _ _ _ _ rfl rfl rfl) ?_
        refine AOps_q 12 _ rfl rfl rfl (QOp_move _ _ rfl rfl) ?_
        refine AOps_nil ?_
        exact ⟨k0, _, _, Nat.lt_succ_self _, Weak_keep 0 hm [1, 5, 11, 12] [0] _ _ rfl rfl rfl, _, _, rfl, rfl, h⟩
      · have h := iteF hb3 h
        refine ACode_exit ?_
        cases h
        exact Weak_keep 0 hm [5] [0] _ _ rfl rfl rfl
  intro E' H' hw
  refine ACode_weak hw ?_
  have h := hks8
  refine ACode_seq (ACode_region ?_)
  refine AOps_q 23 _ rfl rfl rfl (QOp_move _ _ rfl rfl) ?_
  refine AOps_q 4 _ rfl rfl rfl (QOp_assign _ _ rfl rfl) ?_
  refine AOps_nil ?_
  refine ACode_ret ?_
  cases h
  exact ⟨_, _, Weak_reset 0 hm hz [4] _ _ rfl rfl, _, _, [0], _, (.cons (ResV_tmp _ _ rfl) .nil), rfl, rfl, rfl, rfl, rfl⟩

-- (*loop.example/g01362/impl.Colouring).joins
def impl_Colouring_joins (p0 : Col) (p1 : Int) (p2 : Int) (p3 : Int) : Option (Bool) :=
  ((if !decide (p1 = p2) then (impl_Colouring_at p0 p1 p2).bind fun r2 => some (decide (r2 = p3)) else some false) : Option (Bool)).bind fun s3 => some s3
set_option maxRecDepth 100000 in
theorem impl_Colouring_joins_ac (p0 : Col) (p1 : Int) (p2 : Int) (p3 : Int) (r : Bool) (h : impl_Colouring_joins p0 p1 p2 p3 = some r) : AC Try.prog 123 [.d (.pv (colD p0) 0), iV p1, iV p2, iV p3] [] (fun res H' => res = [bV r] ∧ H' = []) := by
  refine AC_of_body true Try.func123 rfl Try.ntmps123 (rvs := [.tmp 8]) rfl rfl (fun G hG => ?_)
  have hm : G.H.length = 0 := by rw [hG]; rfl
  have hz : zeroG G.H = true := by rw [hG]; rfl
  unfold impl_Colouring_joins at h
  refine ACode_seq (ACode_region ?_)
  refine AOps_q 8 _ rfl rfl rfl (QOp_assign _ _ rfl rfl) ?_
  refine AOps_nil ?_
  obtain ⟨s3, hss3, hks3⟩ := bindO h
  clear h
  refine ACode_seqJ (fun E' H' => Weak 20 G E' H' [(8, bV s3)] []) ?_ ?_
  · have h := hss3
    clear hss3
    refine (ACode_region ?_)
    refine AOps_q 9 _ rfl rfl rfl (QOp_move _ _ rfl rfl) ?_
    refine AOps_q 10 _ rfl rfl rfl (QOp_move _ _ rfl rfl) ?_
    refine AOps_q 11 _ rfl rfl rfl (QOp_neq _ _ _ _ _ _ _ rfl rfl rfl) ?_
    refine AOps_q 12 _ rfl rfl rfl (QOp_move _ _ rfl rfl) ?_
    refine AOps_case 12 _ rfl (fun hb1 => ?_) (fun hb1 => ?_)
    · have h := iteT hb1 h
      refine AOps_q 13 _ rfl rfl rfl (QOp_move _ _ rfl rfl) ?_
      refine AOps_q 14 _ rfl rfl rfl (QOp_move _ _ rfl rfl) ?_
      refine AOps_q 15 _ rfl rfl rfl (QOp_move _ _ rfl rfl) ?_
      obtain ⟨r2, hr2, h⟩ := bindO h
      refine AOps_call [] 16 _ _ _ _ _ _ _ _ _ _ rfl rfl rfl rfl rfl rfl rfl Try.call62 rfl (nodupB_sound _ rfl) rfl rfl rfl (impl_Colouring_at_ac p0 p1 p2 _ hr2) ?_
      rintro _ _ ⟨rfl, rfl⟩
      refine ⟨(fun _ h => nomatch h), (allc (trivial) (fun _ h => nomatch h)), AOps_as 16 (v' := iV r2) (H' := []) rfl rfl ?_⟩
      refine AOps_q 17 _ rfl rfl rfl (QOp_move _ _ rfl rfl) ?_
      refine AOps_q 18 _ rfl rfl rfl (QOp_eql _ _ _ _ _ _ _ rfl rfl rfl) ?_
      refine AOps_q 19 _ rfl rfl rfl (QOp_pick_t _ _ _ _ rfl rfl rfl) ?_
      refine AOps_q 8 _ rfl rfl rfl (QOp_assign _ _ rfl rfl) ?_
      refine AOps_nil ?_
      cases h
      exact Weak_keep 0 hm [8] [] _ _ rfl rfl rfl
    · have h := iteF hb1 h
      refine AOps_skip 13 rfl rfl rfl ?_
      refine AOps_skip 14 rfl rfl rfl ?_
      refine AOps_skip 15 rfl rfl rfl ?_
      refine AOps_skip 16 rfl rfl rfl ?_
      refine AOps_skip 17 rfl rfl rfl ?_
      refine AOps_skip 18 rfl rfl rfl ?_
      refine AOps_q 19 _ rfl rfl rfl (QOp_pick_f _ _ _ _ rfl rfl rfl) ?_
      refine AOps_q 8 _ rfl rfl rfl (QOp_assign _ _ rfl rfl) ?_
      refine AOps_nil ?_
      cases h
      exact Weak_keep 0 hm [8] [] _ _ rfl rfl rfl
  intro E' H' hw
  refine ACode_weak hw ?_
  have h := hks3
  refine ACode_ret ?_
  cases h
  exact ⟨_, _, fun r a w h => ⟨r, h⟩, _, _, [], _, (.cons (ResV_tmp _ _ rfl) .nil), rfl, rfl, rfl, rfl, rfl⟩

-- (*loop.example/g01362/impl.Colouring).neighbours$1
def impl_Colouring_neighbours_c1 (p0 : Int) (p1 : Col) (p2 : Int) (p3 : Int) : Option (Bool) :=
  (impl_Colouring_joins p1 p2 p0 p3).bind fun r1 => some r1
set_option maxRecDepth 100000 in
theorem impl_Colouring_neighbours_c1_ac (p0 : Int) (p1 : Col) (p2 : Int) (p3 : Int) (r : Bool) (h : impl_Colouring_neighbours_c1 p0 p1 p2 p3 = some r) : AC Try.prog 122 [iV p0, .d (.pv ([.pv (colD p1) 0]) 0), .d (.pv ([iD p2]) 0), .d (.pv ([iD p3]) 0)] [] (fun res H' => res = [bV r] ∧ H' = []) := by
  refine AC_of_body true Try.func122 rfl Try.ntmps122 (rvs := [.tmp 5]) rfl rfl (fun G hG => ?_)
  have hm : G.H.length = 0 := by rw [hG]; rfl
  have hz : zeroG G.H = true := by rw [hG]; rfl
  unfold impl_Colouring_neighbours_c1 at h
  refine ACode_seq (ACode_region ?_)
  refine AOps_q 5 _ rfl rfl rfl (QOp_assign _ _ rfl rfl) ?_
  refine AOps_nil ?_
  refine ACode_seq (ACode_region ?_)
  refine AOps_q 6 _ rfl rfl rfl (QOp_load_pv _ _ _ _ _ rfl Try.isAgg99 rfl rfl) ?_
  refine AOps_q 7 _ rfl rfl rfl (QOp_load_pv _ _ _ _ _ rfl Try.isAgg2 rfl rfl) ?_
  refine AOps_q 8 _ rfl rfl rfl (QOp_move _ _ rfl rfl) ?_
  refine AOps_q 9 _ rfl rfl rfl (QOp_load_pv _ _ _ _ _ rfl Try.isAgg2 rfl rfl) ?_
  obtain ⟨r1, hr1, h⟩ := bindO h
  refine AOps_call [] 10 _ _ _ _ _ _ _ _ _ _ rfl rfl rfl rfl rfl rfl rfl Try.call123 rfl (nodupB_sound _ rfl) rfl rfl rfl (impl_Colouring_joins_ac p1 p2 p0 p3 _ hr1) ?_
  rintro _ _ ⟨rfl, rfl⟩
  refine ⟨(fun _ h => nomatch h), (allc (trivial) (fun _ h => nomatch h)), AOps_as 10 (v' := bV r1) (H' := []) rfl rfl ?_⟩
  refine AOps_q 5 _ rfl rfl rfl (QOp_assign _ _ rfl rfl) ?_
  refine AOps_nil ?_
  refine ACode_ret ?_
  cases h
  exact ⟨_, _, fun r a w h => ⟨r, h⟩, _, _, [], _, (.cons (ResV_tmp _ _ rfl) .nil), rfl, rfl, rfl, rfl, rfl⟩

-- (*loop.example/g01362/impl.Colouring).neighbours
def impl_Colouring_neighbours (k : Nat) (p0 : Col) (p1 : Int) (p2 : Int) : Option (List Int) :=
  (impl_Colouring_that k p0 (fun a0 => impl_Colouring_neighbours_c1 a0 p0 p1 p2)).bind fun r1 => some r1
set_option maxRecDepth 100000 in
theorem impl_Colouring_neighbours_ac (k : Nat) (p0 : Col) (p1 : Int) (p2 : Int) (r : List Int) (h : impl_Colouring_neighbours k p0 p1 p2 = some r) : AC Try.prog 95 [.d (.pv (colD p0) 0), iV p1, iV p2] [] (fun res H' => res = [.vec 0 0] ∧ H' = [.vec 0 (intsD r)]) := by
  refine AC_of_body true Try.func95 rfl Try.ntmps95 (rvs := [.tmp 6]) rfl rfl (fun G hG => ?_)
  have hm : G.H.length = 0 := by rw [hG]; rfl
  have hz : zeroG G.H = true := by rw [hG]; rfl
  unfold impl_Colouring_neighbours at h
  refine ACode_seq (ACode_region ?_)
  refine AOps_boxI 3 _ _ (.pv (colD p0) 0) _ rfl (fun c hc => by cases hc with | head => rfl | tail _ h => cases h) rfl rfl rfl rfl rfl ?_
  refine AOps_boxI 4 _ _ (iD p1) _ rfl (fun c hc => by cases hc with | head => rfl | tail _ h => cases h) rfl rfl rfl rfl rfl ?_
  refine AOps_boxI 5 _ _ (iD p2) _ rfl (fun c hc => by cases hc with | head => rfl | tail _ h => cases h) rfl rfl rfl rfl rfl ?_
  refine AOps_q 6 _ rfl rfl rfl (QOp_assign _ _ rfl rfl) ?_
  refine AOps_nil ?_
  refine ACode_seq (ACode_region ?_)
  refine AOps_q 7 _ rfl rfl rfl (QOp_load_pv _ _ _ _ _ rfl Try.isAgg99 rfl rfl) ?_
  refine AOps_q 8 _ rfl rfl rfl (QOp_makeFuncD _ _ _ _ rfl rfl rfl) ?_
  obtain ⟨r1, hr1, h⟩ := bindO h
  refine AOps_call [] 9 _ _ _ _ _ _ _ _ _ _ rfl rfl rfl rfl rfl rfl rfl Try.call72 rfl (nodupB_sound _ rfl) rfl rfl rfl (impl_Colouring_that_ac k p0 (fun a0 => impl_Colouring_neighbours_c1 a0 p0 p1 p2) 122 ([.pv ([.pv (colD p0) 0]) 0, .pv ([iD p1]) 0, .pv ([iD p2]) 0]) Try.call122 (fun a0 r h => impl_Colouring_neighbours_c1_ac a0 p0 p1 p2 r h) _ hr1) ?_
  rintro _ _ ⟨rfl, rfl⟩
  refine ⟨(allc (fun _ _ => trivial) (fun _ h => nomatch h)), (allc (trivial) (fun _ h => nomatch h)), AOps_as 9 (v' := .vec 0 0) (H' := [.vec 0 (intsD r1)]) rfl rfl ?_⟩
  refine AOps_q 6 _ rfl rfl rfl (QOp_assign _ _ rfl rfl) ?_
  refine AOps_nil ?_
  refine ACode_ret ?_
  cases h
  exact ⟨_, _, Weak_reset 0 hm hz [6] _ _ rfl rfl, _, _, [0], _, (.cons (ResV_tmp _ _ rfl) .nil), rfl, rfl, rfl, rfl, rfl⟩

-- (*loop.example/g01362/impl.Colouring).walk
def impl_Colouring_walk_l2 (x9 : Int) (r14 : List Int) : Nat → Int → (List Int) → (List Int) → Option (List Int × List Int)
  | 0, _, _, _ => none
  | k2 + 1, x15, x16, x17 => (if decide (x15 < (r14.length : Int)) then ((if 0 ≤ x15 ∧ x15 < (r14.length : Int) then (if 0 ≤ (r14.getD x15.toNat 0) ∧ (r14.getD x15.toNat 0) < (x16.length : Int) then (if decide ((x16.getD (r14.getD x15.toNat 0).toNat 0) < 0) then (if 0 ≤ x9 ∧ x9 < (x17.length : Int) then (if 0 ≤ (x17.getD x9.toNat 0) ∧ (x17.getD x9.toNat 0) < (x16.length : Int) then (if 0 ≤ (r14.getD x15.toNat 0) ∧ (r14.getD x15.toNat 0) < (x16.length : Int) then (if x17.length + ([(r14.getD x15.toNat 0)]).length ≤ 1099511627776 then some (x16.set (r14.getD x15.toNat 0).toNat (w64 ((x16.getD (x17.getD x9.toNat 0).toNat 0) + 1)), (x17 ++ ([(r14.getD x15.toNat 0)]))) else none) else none) else none) else none) else some (x16, x17)) else none) else none) : Option (List Int × List Int)).bind fun s26 => impl_Colouring_walk_l2 x9 r14 k2 (w64 (x15 + 1)) s26.1 s26.2 else some (x16, x17))
def impl_Colouring_walk_l1 (k : Nat) (p0 : Col) (p1 : Int) : Nat → Int → (List Int) → (List Int) → Option (List Int × List Int)
  | 0, _, _, _ => none
  | k1 + 1, x9, x10, x11 => (if decide (x9 < (x11.length : Int)) then ((if 0 ≤ x9 ∧ x9 < (x11.length : Int) then (impl_Colouring_neighbours k p0 (x11.getD x9.toNat 0) p1).bind fun r14 => impl_Colouring_walk_l2 x9 r14 k 0 x10 x11 else none) : Option (List Int × List Int)).bind fun s27 => impl_Colouring_walk_l1 k p0 p1 k1 (w64 (x9 + 1)) s27.1 s27.2 else some (x10, x11))
def impl_Colouring_walk_l0 (k : Nat) (p0 : Col) (p1 : Int) : Nat → Int → (List Int) → (List (List Int)) → Option (List Int × List (List Int))
  | 0, _, _, _ => none
  | k0 + 1, x2, x3, x4 => (if decide (x2 < p0.p) then ((if 0 ≤ x2 ∧ x2 < (x3.length : Int) then (if decide (0 ≤ (x3.getD x2.toNat 0)) then some (x3, x4) else (if 0 ≤ x2 ∧ x2 < (x3.length : Int) then (impl_Colouring_walk_l1 k p0 p1 k 0 (x3.set x2.toNat 0) ([x2]) : Option (List Int × List Int)).bind fun s28 => (sortI s28.2).bind fun r29 => (if x4.length + ([r29]).length ≤ 1099511627776 then some (s28.1, (x4 ++ ([r29]))) else none) else none)) else none) : Option (List Int × List (List Int))).bind fun s31 => impl_Colouring_walk_l0 k p0 p1 k0 (w64 (x2 + 1)) s31.1 s31.2 else some (x3, x4))
def impl_Colouring_walk (k : Nat) (p0 : Col) (p1 : Int) : Option (List (List Int) × List Int) :=
  (slices_Repeat k ([(-1)]) p0.p).bind fun r1 => (impl_Colouring_walk_l0 k p0 p1 k 0 r1 ([] : List (List Int)) : Option (List Int × List (List Int))).bind fun s32 => some (s32.2, s32.1)
set_option maxRecDepth 100000 in
theorem impl_Colouring_walk_ac (k : Nat) (p0 : Col) (p1 : Int) (r : List (List Int) × List Int) (h : impl_Colouring_walk k p0 p1 = some r) : AC Try.prog 94 [.d (.pv (colD p0) 0), iV p1] [] (fun res H' => res = [.vec 0 0, .vec 1 0] ∧ H' = [.vec 0 (rowsD r.1), .vec 0 (intsD r.2)]) := by
  refine AC_of_body true Try.func94 rfl Try.ntmps94 (rvs := [.tmp 4, .tmp 5]) rfl rfl (fun G hG => ?_)
  have hm : G.H.length = 0 := by rw [hG]; rfl
  have hz : zeroG G.H = true := by rw [hG]; rfl
  unfold impl_Colouring_walk at h
  refine ACode_seq (ACode_region ?_)
  refine AOps_q 4 _ rfl rfl rfl (QOp_assign _ _ rfl rfl) ?_
  refine AOps_q 5 _ rfl rfl rfl (QOp_assign _ _ rfl rfl) ?_
  refine AOps_nil ?_
  refine ACode_seq (ACode_region ?_)
  refine AOps_buildSlice 13 _ _ _ [_] (intsD ([(-1)])) _ rfl rfl rfl rfl rfl (by decide) Try.underlying38 Try.sizeOf2 (zero_of Try.typeInfo2 rfl) rfl rfl (intsD_one _) ?_
  refine AOps_q 14 _ rfl rfl rfl (QOp_move _ _ rfl rfl) ?_
  refine AOps_q 15 _ rfl rfl rfl (QOp_nilCheck_pv _ _ _ rfl rfl) ?_
  refine AOps_q 16 _ rfl rfl rfl (QOp_fieldAddr_pv _ _ _ _ _ 0 _ _ rfl Try.underlying24 rfl _ Try.sizeOf2 rfl rfl) ?_
  refine AOps_q 17 _ rfl rfl rfl (QOp_load_pv _ _ _ _ _ rfl Try.isAgg2 rfl rfl) ?_
  obtain ⟨r1, hr1, h⟩ := bindO h
  refine AOps_callL [] 18 _ _ _ _ _ _ _ _ _ _ rfl rfl rfl rfl rfl rfl rfl Try.call120 rfl (nodupB_sound _ rfl) rfl rfl rfl (slices_Repeat_ac k ([(-1)]) p0.p _ hr1) ?_
  rintro _ _ ⟨rfl, rfl⟩
  refine ⟨(allc (intsD_flat _) (fun _ h => nomatch h)), (allc (trivial) (fun _ h => nomatch h)), AOps_as 18 (v' := .vec 1 0) (H' := [.vec 0 (intsD ([(-1)])), .vec 0 (intsD r1)]) rfl rfl ?_⟩
  refine AOps_buildSlice 19 _ _ _ [] (rowsD ([] : List (List Int))) _ rfl rfl rfl rfl rfl (by decide) Try.underlying30 Try.sizeOf38 (zero_of Try.typeInfo38 rfl) rfl rfl (rowsD_one _) ?_
  refine AOps_q 6 _ rfl rfl rfl (QOp_assign _ _ rfl rfl) ?_
  refine AOps_q 7 _ rfl rfl rfl (QOp_assign _ _ rfl rfl) ?_
  refine AOps_nil ?_
  obtain ⟨s32, hss32, hks32⟩ := bindO h
  clear h
  refine ACode_seqJ (fun E' H' => Weak 85 G E' H' [(6, .vec 0 0), (7, .vec 1 0)] [.vec 0 (intsD s32.1), .vec 0 (rowsD s32.2)]) ?_ ?_
  · have h := hss32
    clear hss32
    refine ACode_seq (ACode_region ?_)
    refine AOps_q 20 _ rfl rfl rfl (QOp_move _ _ rfl rfl) ?_
    refine AOps_q 21 _ rfl rfl rfl (QOp_nilCheck_pv _ _ _ rfl rfl) ?_
    refine AOps_q 22 _ rfl rfl rfl (QOp_fieldAddr_pv _ _ _ _ _ 0 _ _ rfl Try.underlying24 rfl _ Try.sizeOf2 rfl rfl) ?_
    refine AOps_q 23 _ rfl rfl rfl (QOp_load_pv _ _ _ _ _ rfl Try.isAgg2 rfl rfl) ?_
    refine AOps_q 24 _ rfl rfl rfl (QOp_move _ _ rfl rfl) ?_
    refine AOps_nil ?_
    refine ACode_block ?_
    refine ACode_loopW (fun k0 E H => ∃ (x2 : Int) (x3 : List Int) (x4 : List (List Int)), E = [(0, .d (.pv (colD p0) 0)), (1, iV p1), (6, .vec 0 0), (7, .vec 1 0), (23, iV p0.p), (24, iV x2)] ∧ H = [.vec 0 (intsD x3), .vec 0 (rowsD x4)] ∧ impl_Colouring_walk_l0 k p0 p1 k0 x2 x3 x4 = some s32) k _ _ (Weak_keep 0 hm [0, 1, 6, 7, 23, 24] [1, 2] _ _ rfl rfl rfl) ⟨_, _, _, rfl, rfl, h⟩ ?_
    clear h
    rintro k0 E H ⟨x2, x3, x4, rfl, rfl, h⟩
    cases k0 with
    | zero => cases (show (none : Option (List Int × List (List Int))) = some _ from h)
    | succ k0 =>
      rw [impl_Colouring_walk_l0] at h
      refine ACode_seq (ACode_region ?_)
      refine AOps_q 25 _ rfl rfl rfl (QOp_lss _ _ _ _ _ _ _ rfl rfl rfl) ?_
      refine AOps_nil ?_
      refine ACode_seq ?_
      refine ACode_cond _ rfl (fun hb5 => ?_) (fun hb5 => ?_)
      · have h := iteT hb5 h
        refine ACode_skip ?_
        obtain ⟨s31, hss31, hks31⟩ := bindO h
        clear h
        refine ACode_seqJ (fun E' H' => Weak 85 G E' H' [(0, .d (.pv (colD p0) 0)), (1, iV p1), (6, .vec 0 0), (7, .vec 1 0), (23, iV p0.p), (24, iV x2)] [.vec 0 (intsD s31.1), .vec 0 (rowsD s31.2)]) ?_ ?_
        · have h := hss31
          clear hss31
          refine ACode_block ?_
          refine ACode_seq (ACode_region ?_)
          refine AOps_q 26 _ rfl rfl rfl (QOp_move _ _ rfl rfl) ?_
          refine AOps_q 8 _ rfl rfl rfl (QOp_assign _ _ rfl rfl) ?_
          refine AOps_nil ?_
          refine ACode_seq ?_
          refine ACode_seq (ACode_region ?_)
          refine AOps_q 27 _ rfl rfl rfl (QOp_move _ _ rfl rfl) ?_
          refine AOps_q 28 _ rfl rfl rfl (QOp_move _ _ rfl rfl) ?_
          obtain ⟨hc6, h⟩ := guardO h
          refine AOps_q 29 _ rfl rfl rfl (QOp_indexAddr_vec _ _ _ _ _ _ _ _ _ rfl Try.underlying38 Try.sizeOf2 hc6.1 (by rw [intsD_length]; exact hc6.2) rfl rfl rfl) ?_
          refine AOps_q 30 _ rfl rfl rfl (QOp_load_eptr _ _ _ _ _ _ _ rfl Try.isAgg2 rfl rfl (intsD_get _ _ 0 (by omega))) ?_
          refine AOps_q 31 _ rfl rfl rfl (QOp_geq _ _ _ _ _ _ _ rfl rfl rfl) ?_
          refine AOps_nil ?_
          refine ACode_cond _ rfl (fun hb7 => ?_) (fun hb7 => ?_)
          · have h := iteT hb7 h
            refine ACode_exit ?_
            cases h
            exact Weak_keep 0 hm [0, 1, 6, 7, 23, 24] [0, 1] _ _ rfl rfl rfl
          · have h := iteF hb7 h
            refine ACode_skip ?_
            refine ACode_seq (ACode_region ?_)
            refine AOps_q 32 _ rfl rfl rfl (QOp_move _ _ rfl rfl) ?_
            refine AOps_q 33 _ rfl rfl rfl (QOp_move _ _ rfl rfl) ?_
            obtain ⟨hc8, h⟩ := guardO h
            refine AOps_q 34 _ rfl rfl rfl (QOp_indexAddr_vec _ _ _ _ _ _ _ _ _ rfl Try.underlying38 Try.sizeOf2 hc8.1 (by rw [intsD_length]; exact hc8.2) rfl rfl rfl) ?_
            refine AOps_store_eptr _ _ _ _ _ _ (intsD x3) _ rfl rfl rfl rfl rfl rfl rfl Try.sizeOf2 (by rw [intsD_length]; omega) ?_
            rw [intsD_set]
            refine AOps_nil ?_
            refine ACode_seq (ACode_region ?_)
            refine AOps_q 35 _ rfl rfl rfl (QOp_move _ _ rfl rfl) ?_
            refine AOps_buildSlice 36 _ _ _ [_] (intsD ([x2])) _ rfl rfl rfl rfl rfl (by decide) Try.underlying38 Try.sizeOf2 (zero_of Try.typeInfo2 rfl) rfl rfl (intsD_one _) ?_
            refine AOps_q 9 _ rfl rfl rfl (QOp_assign _ _ rfl rfl) ?_
            refine AOps_nil ?_
            obtain ⟨s28, hss28, hks28⟩ := bindO h
            clear h
            refine ACode_seqJ (fun E' H' => Weak 85 G E' H' [(0, .d (.pv (colD p0) 0)), (1, iV p1), (6, .vec 0 0), (7, .vec 1 0), (9, .vec 2 0), (23, iV p0.p), (24, iV x2)] [.vec 0 (intsD s28.1), .vec 0 (rowsD x4), .vec 0 (intsD s28.2)]) ?_ ?_
            · have h := hss28
              clear hss28
              refine ACode_seq (ACode_region ?_)
              refine AOps_q 10 _ rfl rfl rfl (QOp_assign _ _ rfl rfl) ?_
              refine AOps_nil ?_
              refine ACode_block ?_
              refine ACode_loopW (fun k1 E H => ∃ (x9 : Int) (x10 : List Int) (x11 : List Int), E = [(0, .d (.pv (colD p0) 0)), (1, iV p1), (6, .vec 0 0), (7, .vec 1 0), (9, .vec 2 0), (10, iV x9), (23, iV p0.p), (24, iV x2)] ∧ H = [.vec 0 (intsD x10), .vec 0 (rowsD x4), .vec 0 (intsD x11)] ∧ impl_Colouring_walk_l1 k p0 p1 k1 x9 x10 x11 = some s28) k _ _ (Weak_keep 0 hm [0, 1, 6, 7, 9, 10, 23, 24] [0, 1, 2] _ _ rfl rfl rfl) ⟨_, _, _, rfl, rfl, h⟩ ?_
              clear h
              rintro k1 E H ⟨x9, x10, x11, rfl, rfl, h⟩
              cases k1 with
              | zero => cases (show (none : Option (List Int × List Int)) = some _ from h)
              | succ k1 =>
                rw [impl_Colouring_walk_l1] at h
                refine ACode_seq ?_
                refine ACode_seq (ACode_region ?_)
                refine AOps_q 37 _ rfl rfl rfl (QOp_move _ _ rfl rfl) ?_
                refine AOps_q 38 _ rfl rfl rfl (QOp_move _ _ rfl rfl) ?_
                refine AOps_q 39 _ rfl rfl rfl (QOp_len_vec _ _ _ _ _ _ _ _ (intsD_length _) rfl rfl rfl rfl Try.underlying38 rfl rfl) ?_
                refine AOps_q 40 _ rfl rfl rfl (QOp_lss _ _ _ _ _ _ _ rfl rfl rfl) ?_
                refine AOps_nil ?_
                refine ACode_cond _ rfl (fun hb12 => ?_) (fun hb12 => ?_)
                · have h := iteT hb12 h
                  refine ACode_skip ?_
                  obtain ⟨s27, hss27, hks27⟩ := bindO h
                  clear h
                  refine ACode_seqJ (fun E' H' => Weak 85 G E' H' [(0, .d (.pv (colD p0) 0)), (1, iV p1), (6, .vec 0 0), (7, .vec 1 0), (9, .vec 2 0), (10, iV x9), (23, iV p0.p), (24, iV x2)] [.vec 0 (intsD s27.1), .vec 0 (rowsD x4), .vec 0 (intsD s27.2)]) ?_ ?_
                  · have h := hss27
                    clear hss27
                    refine ACode_block ?_
                    refine ACode_seq (ACode_region ?_)
                    refine AOps_q 43 _ rfl rfl rfl (QOp_move _ _ rfl rfl) ?_
                    refine AOps_q 44 _ rfl rfl rfl (QOp_move _ _ rfl rfl) ?_
                    refine AOps_q 45 _ rfl rfl rfl (QOp_move _ _ rfl rfl) ?_
                    obtain ⟨hc13, h⟩ := guardO h
                    refine AOps_q 46 _ rfl rfl rfl (QOp_indexAddr_vec _ _ _ _ _ _ _ _ _ rfl Try.underlying38 Try.sizeOf2 hc13.1 (by rw [intsD_length]; exact hc13.2) rfl rfl rfl) ?_
                    refine AOps_q 47 _ rfl rfl rfl (QOp_load_eptr _ _ _ _ _ _ _ rfl Try.isAgg2 rfl rfl (intsD_get _ _ 0 (by omega))) ?_
                    refine AOps_q 48 _ rfl rfl rfl (QOp_move _ _ rfl rfl) ?_
                    obtain ⟨r14, hr14, h⟩ := bindO h
                    refine AOps_call [] 49 _ _ _ _ _ _ _ _ _ _ rfl rfl rfl rfl rfl rfl rfl Try.call95 rfl (nodupB_sound _ rfl) rfl rfl rfl (impl_Colouring_neighbours_ac k p0 (x11.getD x9.toNat 0) p1 _ hr14) ?_
                    rintro _ _ ⟨rfl, rfl⟩
                    refine ⟨(allc (fun _ _ => trivial) (fun _ h => nomatch h)), (allc (trivial) (fun _ h => nomatch h)), AOps_as 49 (v' := .vec 3 0) (H' := [.vec 0 (intsD x10), .vec 0 (rowsD x4), .vec 0 (intsD x11), .vec 0 (intsD r14)]) rfl rfl ?_⟩
                    refine AOps_q 50 _ rfl rfl rfl (QOp_len_vec _ _ _ _ _ _ _ _ (intsD_length _) rfl rfl rfl rfl Try.underlying38 rfl rfl) ?_
                    refine AOps_q 51 _ rfl rfl rfl (QOp_move _ _ rfl rfl) ?_
                    refine AOps_nil ?_
                    refine ACode_block ?_
                    refine ACode_loopW (fun k2 E H => ∃ (x15 : Int) (x16 : List Int) (x17 : List Int), E = [(0, .d (.pv (colD p0) 0)), (1, iV p1), (6, .vec 0 0), (7, .vec 1 0), (9, .vec 2 0), (10, iV x9), (23, iV p0.p), (24, iV x2), (49, .vec 3 0), (50, iV (r14.length : Int)), (51, iV x15)] ∧ H = [.vec 0 (intsD x16), .vec 0 (rowsD x4), .vec 0 (intsD x17), .vec 0 (intsD r14)] ∧ impl_Colouring_walk_l2 x9 r14 k2 x15 x16 x17 = some s27) k _ _ (Weak_keep 0 hm [0, 1, 6, 7, 9, 10, 23, 24, 49, 50, 51] [0, 1, 2, 3] _ _ rfl rfl rfl) ⟨_, _, _, rfl, rfl, h⟩ ?_
                    clear h
                    rintro k2 E H ⟨x15, x16, x17, rfl, rfl, h⟩
                    cases k2 with
                    | zero => cases (show (none : Option (List Int × List Int)) = some _ from h)
                    | succ k2 =>
                      rw [impl_Colouring_walk_l2] at h
                      refine ACode_seq (ACode_region ?_)
                      refine AOps_q 52 _ rfl rfl rfl (QOp_lss _ _ _ _ _ _ _ rfl rfl rfl) ?_
                      refine AOps_nil ?_
                      refine ACode_seq ?_
                      refine ACode_cond _ rfl (fun hb18 => ?_) (fun hb18 => ?_)
                      · have h := iteT hb18 h
                        refine ACode_skip ?_
                        obtain ⟨s26, hss26, hks26⟩ := bindO h
                        clear h
                        refine ACode_seqJ (fun E' H' => Weak 85 G E' H' [(0, .d (.pv (colD p0) 0)), (1, iV p1), (6, .vec 0 0), (7, .vec 1 0), (9, .vec 2 0), (10, iV x9), (23, iV p0.p), (24, iV x2), (49, .vec 3 0), (50, iV (r14.length : Int)), (51, iV x15)] [.vec 0 (intsD s26.1), .vec 0 (rowsD x4), .vec 0 (intsD s26.2), .vec 0 (intsD r14)]) ?_ ?_
                        · have h := hss26
                          clear hss26
                          refine ACode_block ?_
                          refine ACode_seq (ACode_region ?_)
                          obtain ⟨hc19, h⟩ := guardO h
                          refine AOps_q 53 _ rfl rfl rfl (QOp_indexAddr_vec _ _ _ _ _ _ _ _ _ rfl Try.underlying38 Try.sizeOf2 hc19.1 (by rw [intsD_length]; exact hc19.2) rfl rfl rfl) ?_
                          refine AOps_q 54 _ rfl rfl rfl (QOp_load_eptr _ _ _ _ _ _ _ rfl Try.isAgg2 rfl rfl (intsD_get _ _ 0 (by omega))) ?_
                          refine AOps_q 12 _ rfl rfl rfl (QOp_assign _ _ rfl rfl) ?_
                          refine AOps_nil ?_
                          refine ACode_seq (ACode_region ?_)
                          refine AOps_q 55 _ rfl rfl rfl (QOp_move _ _ rfl rfl) ?_
                          refine AOps_q 56 _ rfl rfl rfl (QOp_move _ _ rfl rfl) ?_
                          obtain ⟨hc20, h⟩ := guardO h
                          refine AOps_q 57 _ rfl rfl rfl (QOp_indexAddr_vec _ _ _ _ _ _ _ _ _ rfl Try.underlying38 Try.sizeOf2 hc20.1 (by rw [intsD_length]; exact hc20.2) rfl rfl rfl) ?_
                          refine AOps_q 58 _ rfl rfl rfl (QOp_load_eptr _ _ _ _ _ _ _ rfl Try.isAgg2 rfl rfl (intsD_get _ _ 0 (by omega))) ?_
                          refine AOps_q 59 _ rfl rfl rfl (QOp_lss _ _ _ _ _ _ _ rfl rfl rfl) ?_
                          refine AOps_nil ?_
                          refine ACode_cond _ rfl (fun hb21 => ?_) (fun hb21 => ?_)
                          · have h := iteT hb21 h
                            refine ACode_seq (ACode_region ?_)
                            refine AOps_q 60 _ rfl rfl rfl (QOp_move _ _ rfl rfl) ?_
                            refine AOps_q 61 _ rfl rfl rfl (QOp_move _ _ rfl rfl) ?_
                            refine AOps_q 62 _ rfl rfl rfl (QOp_move _ _ rfl rfl) ?_
                            refine AOps_q 63 _ rfl rfl rfl (QOp_move _ _ rfl rfl) ?_
                            refine AOps_q 64 _ rfl rfl rfl (QOp_move _ _ rfl rfl) ?_
                            obtain ⟨hc22, h⟩ := guardO h
                            refine AOps_q 65 _ rfl rfl rfl (QOp_indexAddr_vec _ _ _ _ _ _ _ _ _ rfl Try.underlying38 Try.sizeOf2 hc22.1 (by rw [intsD_length]; exact hc22.2) rfl rfl rfl) ?_
                            refine AOps_q 66 _ rfl rfl rfl (QOp_load_eptr _ _ _ _ _ _ _ rfl Try.isAgg2 rfl rfl (intsD_get _ _ 0 (by omega))) ?_
                            obtain ⟨hc23, h⟩ := guardO h
                            refine AOps_q 67 _ rfl rfl rfl (QOp_indexAddr_vec _ _ _ _ _ _ _ _ _ rfl Try.underlying38 Try.sizeOf2 hc23.1 (by rw [intsD_length]; exact hc23.2) rfl rfl rfl) ?_
                            refine AOps_q 68 _ rfl rfl rfl (QOp_load_eptr _ _ _ _ _ _ _ rfl Try.isAgg2 rfl rfl (intsD_get _ _ 0 (by omega))) ?_
                            refine AOps_q 69 _ rfl rfl rfl (QOp_add _ _ _ _ _ _ _ rfl rfl rfl) ?_
                            obtain ⟨hc24, h⟩ := guardO h
                            refine AOps_q 70 _ rfl rfl rfl (QOp_indexAddr_vec _ _ _ _ _ _ _ _ _ rfl Try.underlying38 Try.sizeOf2 hc24.1 (by rw [intsD_length]; exact hc24.2) rfl rfl rfl) ?_
                            refine AOps_store_eptr _ _ _ _ _ _ (intsD x16) _ rfl rfl rfl rfl rfl rfl rfl Try.sizeOf2 (by rw [intsD_length]; omega) ?_
                            rw [intsD_set]
                            refine AOps_nil ?_
                            refine (ACode_region ?_)
                            refine AOps_q 71 _ rfl rfl rfl (QOp_move _ _ rfl rfl) ?_
                            refine AOps_q 72 _ rfl rfl rfl (QOp_move _ _ rfl rfl) ?_
                            refine AOps_buildSlice 73 _ _ _ [_] (intsD ([(r14.getD x15.toNat 0)])) _ rfl rfl rfl rfl rfl (by decide) Try.underlying38 Try.sizeOf2 (zero_of Try.typeInfo2 rfl) rfl rfl (intsD_one _) ?_
                            obtain ⟨hc25, h⟩ := guardO h
                            refine AOps_append 74 _ _ _ _ _ _ _ _ _ _ _ _ rfl rfl rfl rfl rfl rfl rfl Try.underlying38 Try.type2 rfl rfl rfl (by decide) rfl rfl rfl rfl (intsD_one _) (by rw [intsD_length, intsD_length]; exact hc25) ?_
                            rw [intsD_app]
                            refine AOps_q 9 _ rfl rfl rfl (QOp_assign _ _ rfl rfl) ?_
                            refine AOps_nil ?_
                            cases h
                            exact Weak_trans (Weak_keep 0 hm [0, 1, 6, 7, 9, 10, 23, 24, 49, 50, 51] [0, 1, 2, 3] _ _ rfl rfl rfl) (Weak_reset 0 hm hz [0, 1, 6, 7, 9, 10, 23, 24, 49, 50, 51] _ _ rfl rfl)
                          · have h := iteF hb21 h
                            refine ACode_skip ?_
                            cases h
                            exact Weak_keep 0 hm [0, 1, 6, 7, 9, 10, 23, 24, 49, 50, 51] [0, 1, 2, 3] _ _ rfl rfl rfl
                        intro E' H' hw
                        refine ACode_weak hw ?_
                        have h := hks26
                        refine (ACode_region ?_)
                        refine AOps_q 75 _ rfl rfl rfl (QOp_add _ _ _ _ _ _ _ rfl rfl rfl) ?_
                        refine AOps_q 51 _ rfl rfl rfl (QOp_move _ _ rfl rfl) ?_
                        refine AOps_nil ?_
                        exact ⟨k2, _, _, Nat.lt_succ_self _, Weak_keep 0 hm [0, 1, 6, 7, 9, 10, 23, 24, 49, 50, 51] [0, 1, 2, 3] _ _ rfl rfl rfl, _, _, _, rfl, rfl, h⟩
                      · have h := iteF hb18 h
                        refine ACode_exit ?_
                        cases h
                        exact Weak_keep 0 hm [0, 1, 6, 7, 9, 10, 23, 24] [0, 1, 2] _ _ rfl rfl rfl
                  intro E' H' hw
                  refine ACode_weak hw ?_
                  have h := hks27
                  refine (ACode_region ?_)
                  refine AOps_q 41 _ rfl rfl rfl (QOp_move _ _ rfl rfl) ?_
                  refine AOps_q 42 _ rfl rfl rfl (QOp_add _ _ _ _ _ _ _ rfl rfl rfl) ?_
                  refine AOps_q 10 _ rfl rfl rfl (QOp_assign _ _ rfl rfl) ?_
                  refine AOps_nil ?_
                  exact ⟨k1, _, _, Nat.lt_succ_self _, Weak_keep 0 hm [0, 1, 6, 7, 9, 10, 23, 24] [0, 1, 2] _ _ rfl rfl rfl, _, _, _, rfl, rfl, h⟩
                · have h := iteF hb12 h
                  refine ACode_exit ?_
                  cases h
                  exact Weak_keep 0 hm [0, 1, 6, 7, 9, 23, 24] [0, 1, 2] _ _ rfl rfl rfl
            intro E' H' hw
            refine ACode_weak hw ?_
            have h := hks28
            refine ACode_seq (ACode_region ?_)
            refine AOps_q 76 _ rfl rfl rfl (QOp_move _ _ rfl rfl) ?_
            obtain ⟨r29, hr29, h⟩ := bindO h
            refine AOps_call [2] 77 _ _ _ _ _ _ _ _ _ _ rfl rfl rfl rfl rfl rfl rfl Try.call121 rfl (nodupB_sound _ rfl) rfl rfl rfl (sortI_ac s28.2 _ hr29) ?_
            rintro _ _ ⟨rfl, rfl⟩
            refine ⟨(allc (fun _ _ => trivial) (fun _ h => nomatch h)), (fun _ h => nomatch h), AOps_as 77 (v' := .tup []) (H' := [.vec 0 (intsD s28.1), .vec 0 (rowsD x4), .vec 0 (intsD r29)]) rfl rfl ?_⟩
            refine AOps_nil ?_
            refine (ACode_region ?_)
            refine AOps_q 78 _ rfl rfl rfl (QOp_move _ _ rfl rfl) ?_
            refine AOps_q 79 _ rfl rfl rfl (QOp_move _ _ rfl rfl) ?_
            refine AOps_freeze 79 2 0 _ rfl rfl ?_
            refine AOps_buildSlice 80 _ _ _ [_] (rowsD ([r29])) _ rfl rfl rfl rfl rfl (by decide) Try.underlying30 Try.sizeOf38 (zero_of Try.typeInfo38 rfl) rfl rfl (rowsD_one _) ?_
            obtain ⟨hc30, h⟩ := guardO h
            refine AOps_append 81 _ _ _ _ _ _ _ _ _ _ _ _ rfl rfl rfl rfl rfl rfl rfl Try.underlying30 Try.type38 rfl rfl rfl (by decide) rfl rfl rfl rfl (rowsD_one _) (by rw [rowsD_length, rowsD_length]; exact hc30) ?_
            rw [rowsD_app]
            refine AOps_q 7 _ rfl rfl rfl (QOp_assign _ _ rfl rfl) ?_
            refine AOps_nil ?_
            cases h
            exact Weak_trans (Weak_keep 0 hm [0, 1, 6, 7, 23, 24] [0, 1] _ _ rfl rfl rfl) (Weak_reset 0 hm hz [0, 1, 6, 7, 23, 24] _ _ rfl rfl)
        intro E' H' hw
        refine ACode_weak hw ?_
        have h := hks31
        refine (ACode_region ?_)
        refine AOps_q 82 _ rfl rfl rfl (QOp_add _ _ _ _ _ _ _ rfl rfl rfl) ?_
        refine AOps_q 24 _ rfl rfl rfl (QOp_move _ _ rfl rfl) ?_
        refine AOps_nil ?_
        exact ⟨k0, _, _, Nat.lt_succ_self _, Weak_keep 0 hm [0, 1, 6, 7, 23, 24] [0, 1] _ _ rfl rfl rfl, _, _, _, rfl, rfl, h⟩
      · have h := iteF hb5 h
        refine ACode_exit ?_
        cases h
        exact Weak_keep 0 hm [6, 7] [0, 1] _ _ rfl rfl rfl
  intro E' H' hw
  refine ACode_weak hw ?_
  have h := hks32
  refine ACode_seq (ACode_region ?_)
  refine AOps_q 83 _ rfl rfl rfl (QOp_move _ _ rfl rfl) ?_
  refine AOps_q 84 _ rfl rfl rfl (QOp_move _ _ rfl rfl) ?_
  refine AOps_q 4 _ rfl rfl rfl (QOp_assign _ _ rfl rfl) ?_
  refine AOps_q 5 _ rfl rfl rfl (QOp_assign _ _ rfl rfl) ?_
  refine AOps_nil ?_
  refine ACode_ret ?_
  cases h
  exact ⟨_, _, Weak_reset 0 hm hz [4, 5] _ _ rfl rfl, _, _, [1, 0], _, (.cons (ResV_tmp _ _ rfl) (.cons (ResV_tmp _ _ rfl) .nil)), rfl, rfl, rfl, rfl, rfl⟩

-- loop.example/g01362/impl.ConnectedColours
def impl_ConnectedColours_l0 (k : Nat) (p0 : Col) : Nat → Int → (List Int) → Option (List Int)
  | 0, _, _ => none
  | k0 + 1, x3, x4 => (if decide (x3 < p0.k) then ((impl_Colouring_walk k p0 x3).bind fun r6 => (if decide ((r6.1.length : Int) = 1) then (if x4.length + ([x3]).length ≤ 1099511627776 then some (x4 ++ ([x3])) else none) else some x4) : Option (List Int)).bind fun s9 => impl_ConnectedColours_l0 k p0 k0 (w64 (x3 + 1)) s9 else some x4)
def impl_ConnectedColours (k : Nat) (p0 : Col) : Option (Option (List Int) × Int) :=
  (impl_Colouring_code k p0 (some (impl_always))).bind fun r1 => (if !decide (r1 = 0) then some (none, r1) else (impl_ConnectedColours_l0 k p0 k 0 ([] : List Int) : Option (List Int)).bind fun s10 => some (some s10, 0))
set_option maxRecDepth 100000 in
theorem impl_ConnectedColours_ac (k : Nat) (p0 : Col) (r : Option (List Int) × Int) (h : impl_ConnectedColours k p0 = some r) : AC Try.prog 46 [.d (.agg (colD p0))] [] (fun res H' => res = [ownA 0 (r.1.map intsD), iV r.2] ∧ H' = [] ++ ownH (r.1.map intsD)) := by
  refine AC_of_body false Try.func46 rfl Try.ntmps46 (rvs := [.tmp 2, .tmp 3]) rfl rfl (fun G hG => ?_)
  have hm : G.H.length = 0 := by rw [hG]; rfl
  have hz : zeroG G.H = true := by rw [hG]; rfl
  unfold impl_ConnectedColours at h
  refine ACode_seq (ACode_region ?_)
  refine AOps_boxI 1 _ _ (.agg (colD p0)) (colD p0) rfl (colD_one _) rfl rfl rfl rfl rfl ?_
  refine AOps_q 2 _ rfl rfl rfl (QOp_assign _ _ rfl rfl) ?_
  refine AOps_q 3 _ rfl rfl rfl (QOp_assign _ _ rfl rfl) ?_
  refine AOps_nil ?_
  refine ACode_seq ?_
  refine ACode_seq (ACode_region ?_)
  obtain ⟨r1, hr1, h⟩ := bindO h
  refine AOps_call [] 9 _ _ _ _ _ _ _ _ _ _ rfl rfl rfl rfl rfl rfl rfl Try.call59 rfl (nodupB_sound _ rfl) rfl rfl rfl (impl_Colouring_code_ac k p0 (some (impl_always)) 69 ([]) Try.call69 (fun r h => by cases h; exact impl_always_ac) _ hr1) ?_
  rintro _ _ ⟨rfl, rfl⟩
  refine ⟨(fun _ h => nomatch h), (allc (trivial) (fun _ h => nomatch h)), AOps_as 9 (v' := iV r1) (H' := []) rfl rfl ?_⟩
  refine AOps_q 4 _ rfl rfl rfl (QOp_assign _ _ rfl rfl) ?_
  refine AOps_nil ?_
  refine ACode_seq (ACode_region ?_)
  refine AOps_q 10 _ rfl rfl rfl (QOp_move _ _ rfl rfl) ?_
  refine AOps_q 11 _ rfl rfl rfl (QOp_neq _ _ _ _ _ _ _ rfl rfl rfl) ?_
  refine AOps_nil ?_
  refine ACode_cond _ rfl (fun hb2 => ?_) (fun hb2 => ?_)
  · have h := iteT hb2 h
    refine ACode_seq (ACode_region ?_)
    refine AOps_q 12 _ rfl rfl rfl (QOp_move _ _ rfl rfl) ?_
    refine AOps_q 2 _ rfl rfl rfl (QOp_assign _ _ rfl rfl) ?_
    refine AOps_q 3 _ rfl rfl rfl (QOp_assign _ _ rfl rfl) ?_
    refine AOps_nil ?_
    refine ACode_ret ?_
    cases h
    exact ⟨_, _, fun r a w h => ⟨r, h⟩, _, _, [], _, (.cons (ResV_tmp _ _ rfl) (.cons (ResV_tmp _ _ rfl) .nil)), rfl, rfl, rfl, rfl, rfl⟩
  · have h := iteF hb2 h
    refine ACode_skip ?_
    refine ACode_seq (ACode_region ?_)
    refine AOps_buildSlice 13 _ _ _ [] (intsD ([] : List Int)) _ rfl rfl rfl rfl rfl (by decide) Try.underlying38 Try.sizeOf2 (zero_of Try.typeInfo2 rfl) rfl rfl (intsD_one _) ?_
    refine AOps_q 5 _ rfl rfl rfl (QOp_assign _ _ rfl rfl) ?_
    refine AOps_nil ?_
    obtain ⟨s10, hss10, hks10⟩ := bindO h
    clear h
    refine ACode_seqJ (fun E' H' => Weak 33 G E' H' [(5, .vec 0 0)] [.vec 0 (intsD s10)]) ?_ ?_
    · have h := hss10
      clear hss10
      refine ACode_seq (ACode_region ?_)
      refine AOps_q 14 _ rfl rfl rfl (QOp_fieldAddr_pv _ _ _ _ _ 1 _ _ rfl Try.underlying24 rfl _ Try.sizeOf2 rfl rfl) ?_
      refine AOps_q 15 _ rfl rfl rfl (QOp_load_pv _ _ _ _ _ rfl Try.isAgg2 rfl rfl) ?_
      refine AOps_q 16 _ rfl rfl rfl (QOp_move _ _ rfl rfl) ?_
      refine AOps_nil ?_
      refine ACode_block ?_
      refine ACode_loopW (fun k0 E H => ∃ (x3 : Int) (x4 : List Int), E = [(1, .d (.pv (colD p0) 0)), (5, .vec 0 0), (15, iV p0.k), (16, iV x3)] ∧ H = [.vec 0 (intsD x4)] ∧ impl_ConnectedColours_l0 k p0 k0 x3 x4 = some s10) k _ _ (Weak_keep 0 hm [1, 5, 15, 16] [0] _ _ rfl rfl rfl) ⟨_, _, rfl, rfl, h⟩ ?_
      clear h
      rintro k0 E H ⟨x3, x4, rfl, rfl, h⟩
      cases k0 with
      | zero => cases (show (none : Option (List Int)) = some _ from h)
      | succ k0 =>
        rw [impl_ConnectedColours_l0] at h
        refine ACode_seq (ACode_region ?_)
        refine AOps_q 17 _ rfl rfl rfl (QOp_lss _ _ _ _ _ _ _ rfl rfl rfl) ?_
        refine AOps_nil ?_
        refine ACode_seq ?_
        refine ACode_cond _ rfl (fun hb5 => ?_) (fun hb5 => ?_)
        · have h := iteT hb5 h
          refine ACode_skip ?_
          obtain ⟨s9, hss9, hks9⟩ := bindO h
          clear h
          refine ACode_seqJ (fun E' H' => Weak 33 G E' H' [(1, .d (.pv (colD p0) 0)), (5, .vec 0 0), (15, iV p0.k), (16, iV x3)] [.vec 0 (intsD s9)]) ?_ ?_
          · have h := hss9
            clear hss9
            refine ACode_block ?_
            refine ACode_seq (ACode_region ?_)
            refine AOps_q 18 _ rfl rfl rfl (QOp_move _ _ rfl rfl) ?_
            refine AOps_q 6 _ rfl rfl rfl (QOp_assign _ _ rfl rfl) ?_
            refine AOps_nil ?_
            refine ACode_seq (ACode_region ?_)
            refine AOps_q 20 _ rfl rfl rfl (QOp_move _ _ rfl rfl) ?_
            obtain ⟨r6, hr6, h⟩ := bindO h
            refine AOps_call [] 21 _ _ _ _ _ _ _ _ _ _ rfl rfl rfl rfl rfl rfl rfl Try.call94 rfl (nodupB_sound _ rfl) rfl rfl rfl (impl_Colouring_walk_ac k p0 x3 _ hr6) ?_
            rintro _ _ ⟨rfl, rfl⟩
            refine ⟨(allc (fun _ _ => trivial) (allc (fun _ _ => trivial) (fun _ h => nomatch h))), (allc (trivial) (allc (trivial) (fun _ h => nomatch h))), AOps_as 21 (v' := .tup [.vec 1 0, .vec 2 0]) (H' := [.vec 0 (intsD x4), .vec 0 (rowsD r6.1), .vec 0 (intsD r6.2)]) rfl rfl ?_⟩
            refine AOps_q 19 _ rfl rfl rfl (QOp_move _ _ rfl rfl) ?_
            refine AOps_q 22 _ rfl rfl rfl (QOp_extract _ _ _ _ rfl rfl rfl) ?_
            refine AOps_q 23 _ rfl rfl rfl (QOp_extract _ _ _ _ rfl rfl rfl) ?_
            refine AOps_q 7 _ rfl rfl rfl (QOp_assign _ _ rfl rfl) ?_
            refine AOps_q 8 _ rfl rfl rfl (QOp_assign _ _ rfl rfl) ?_
            refine AOps_nil ?_
            refine ACode_seq (ACode_region ?_)
            refine AOps_q 24 _ rfl rfl rfl (QOp_move _ _ rfl rfl) ?_
            refine AOps_q 25 _ rfl rfl rfl (QOp_len_vec _ _ _ _ _ _ _ _ (rowsD_length _) rfl rfl rfl rfl Try.underlying30 rfl rfl) ?_
            refine AOps_q 26 _ rfl rfl rfl (QOp_eql _ _ _ _ _ _ _ rfl rfl rfl) ?_
            refine AOps_nil ?_
            refine ACode_cond _ rfl (fun hb7 => ?_) (fun hb7 => ?_)
            · have h := iteT hb7 h
              refine (ACode_region ?_)
              refine AOps_q 27 _ rfl rfl rfl (QOp_move _ _ rfl rfl) ?_
              refine AOps_q 28 _ rfl rfl rfl (QOp_move _ _ rfl rfl) ?_
              refine AOps_buildSlice 29 _ _ _ [_] (intsD ([x3])) _ rfl rfl rfl rfl rfl (by decide) Try.underlying38 Try.sizeOf2 (zero_of Try.typeInfo2 rfl) rfl rfl (intsD_one _) ?_
              obtain ⟨hc8, h⟩ := guardO h
              refine AOps_append 30 _ _ _ _ _ _ _ _ _ _ _ _ rfl rfl rfl rfl rfl rfl rfl Try.underlying38 Try.type2 rfl rfl rfl (by decide) rfl rfl rfl rfl (intsD_one _) (by rw [intsD_length, intsD_length]; exact hc8) ?_
              rw [intsD_app]
              refine AOps_q 5 _ rfl rfl rfl (QOp_assign _ _ rfl rfl) ?_
              refine AOps_nil ?_
              cases h
              exact Weak_trans (Weak_keep 0 hm [1, 5, 15, 16] [0] _ _ rfl rfl rfl) (Weak_reset 0 hm hz [1, 5, 15, 16] _ _ rfl rfl)
            · have h := iteF hb7 h
              refine ACode_skip ?_
              cases h
              exact Weak_keep 0 hm [1, 5, 15, 16] [0] _ _ rfl rfl rfl
          intro E' H' hw
          refine ACode_weak hw ?_
          have h := hks9
          refine (ACode_region ?_)
          refine AOps_q 31 _ rfl rfl rfl (QOp_add _ _ _ _ _ _ _ rfl rfl rfl) ?_
          refine AOps_q 16 _ rfl rfl rfl (QOp_move _ _ rfl rfl) ?_
          refine AOps_nil ?_
          exact ⟨k0, _, _, Nat.lt_succ_self _, Weak_keep 0 hm [1, 5, 15, 16] [0] _ _ rfl rfl rfl, _, _, rfl, rfl, h⟩
        · have h := iteF hb5 h
          refine ACode_exit ?_
          cases h
          exact Weak_keep 0 hm [5] [0] _ _ rfl rfl rfl
    intro E' H' hw
    refine ACode_weak hw ?_
    have h := hks10
    refine ACode_seq (ACode_region ?_)
    refine AOps_q 32 _ rfl rfl rfl (QOp_move _ _ rfl rfl) ?_
    refine AOps_q 2 _ rfl rfl rfl (QOp_assign _ _ rfl rfl) ?_
    refine AOps_q 3 _ rfl rfl rfl (QOp_assign _ _ rfl rfl) ?_
    refine AOps_nil ?_
    refine ACode_ret ?_
    cases h
    exact ⟨_, _, Weak_reset 0 hm hz [2, 3] _ _ rfl rfl, _, _, [0], _, (.cons (ResV_tmp _ _ rfl) (.cons (ResV_tmp _ _ rfl) .nil)), rfl, rfl, rfl, rfl, rfl⟩

-- loop.example/g01362/laws.FnExactConnectedColours
def laws_FnExactConnectedColours (k : Nat) (p0 : Col) : Option (Bool) :=
  (laws_toColouring k p0).bind fun r1 => (spec_ConnectedColours k r1).bind fun r2 => (laws_toColouring k p0).bind fun r3 => (impl_ConnectedColours k r3).bind fun r4 => (match r4.1 with | none => (((laws_eqInt64S k ([]) r2.1).bind fun r7 => (if !r7 then some true else some (!decide (r4.2 = r2.2))) : Option (Bool)).bind fun s9 => (if s9 then some (.inr false) else some (.inl ())) : Option (Sum (Unit) (Bool))).bind fun os11 => (match os11 with | .inl s11 => (laws_markInt64S_d0 k ([]) 1).bind fun r12 => (laws_heldInt64S k ([]) 1).bind fun r13 => (if decide (r13 < 0) then some false else (if !decide (r13 = r12) then some false else (laws_toColouring k p0).bind fun r16 => (impl_ConnectedColours k r16).bind fun r17 => (match r17.1 with | none => (((laws_eqInt64S k ([]) r2.1).bind fun r20 => (if !r20 then some true else some (!decide (r17.2 = r2.2))) : Option (Bool)).bind fun s22 => (if s22 then some (.inr false) else some (.inl ())) : Option (Sum (Unit) (Bool))).bind fun os24 => (match os24 with | .inl s24 => (laws_heldInt64S k ([]) 1).bind fun r25 => (if decide (r25 < 0) then some false else (if !decide (r25 = r12) then some false else some true)) | .inr rr => some rr) | some l18 => (((laws_eqInt64S k l18 r2.1).bind fun r28 => (if !r28 then some true else some (!decide (r17.2 = r2.2))) : Option (Bool)).bind fun s30 => (if s30 then some (.inr false) else some (.inl ())) : Option (Sum (Unit) (Bool))).bind fun os32 => (match os32 with | .inl s32 => (laws_heldInt64S k ([]) 1).bind fun r33 => (if decide (r33 < 0) then some false else (if !decide (r33 = r12) then some false else some true)) | .inr rr => some rr)))) | .inr rr => some rr) | some l5 => (((laws_eqInt64S k l5 r2.1).bind fun r36 => (if !r36 then some true else some (!decide (r4.2 = r2.2))) : Option (Bool)).bind fun s38 => (if s38 then some (.inr false) else some (.inl ())) : Option (Sum (Unit) (Bool))).bind fun os40 => (match os40 with | .inl s40 => (laws_markInt64S k l5 1).bind fun r41 => (laws_heldInt64S k r41.2 1).bind fun r42 => (if decide (r42 < 0) then some false else (if !decide (r42 = r41.1) then some false else (laws_toColouring k p0).bind fun r45 => (impl_ConnectedColours k r45).bind fun r46 => (match r46.1 with | none => (((laws_eqInt64S k ([]) r2.1).bind fun r49 => (if !r49 then some true else some (!decide (r46.2 = r2.2))) : Option (Bool)).bind fun s51 => (if s51 then some (.inr false) else some (.inl ())) : Option (Sum (Unit) (Bool))).bind fun os53 => (match os53 with | .inl s53 => (laws_heldInt64S k r41.2 1).bind fun r54 => (if decide (r54 < 0) then some false else (if !decide (r54 = r41.1) then some false else some true)) | .inr rr => some rr) | some l47 => (((laws_eqInt64S k l47 r2.1).bind fun r57 => (if !r57 then some true else some (!decide (r46.2 = r2.2))) : Option (Bool)).bind fun s59 => (if s59 then some (.inr false) else some (.inl ())) : Option (Sum (Unit) (Bool))).bind fun os61 => (match os61 with | .inl s61 => (laws_heldInt64S k r41.2 1).bind fun r62 => (if decide (r62 < 0) then some false else (if !decide (r62 = r41.1) then some false else some true)) | .inr rr => some rr)))) | .inr rr => some rr))
set_option maxRecDepth 100000 in
theorem laws_FnExactConnectedColours_ac (k : Nat) (p0 : Col) (r : Bool) (h : laws_FnExactConnectedColours k p0 = some r) : AC Try.prog 13 [.d (.agg (colD p0))] [] (fun res H' => res = [bV r] ∧ H' = []) := by
  refine AC_of_body true Try.func13 rfl Try.ntmps13 (rvs := [.tmp 2]) rfl rfl (fun G hG => ?_)
  have hm : G.H.length = 0 := by rw [hG]; rfl
  have hz : zeroG G.H = true := by rw [hG]; rfl
  unfold laws_FnExactConnectedColours at h
  refine ACode_seq (ACode_region ?_)
  refine AOps_boxI 1 _ _ (.agg (colD p0)) (colD p0) rfl (colD_one _) rfl rfl rfl rfl rfl ?_
  refine AOps_q 2 _ rfl rfl rfl (QOp_assign _ _ rfl rfl) ?_
  refine AOps_nil ?_
  refine ACode_seq (ACode_region ?_)
  refine AOps_q 12 _ rfl rfl rfl (QOp_loadN_pv _ _ _ _ _ _ rfl Try.isAgg37 Try.sizeOf37 rfl (colD_all _) (colD_length _)) ?_
  obtain ⟨r1, hr1, h⟩ := bindO h
  refine AOps_call [] 13 _ _ _ _ _ _ _ _ _ _ rfl rfl rfl rfl rfl rfl rfl Try.call24 rfl (nodupB_sound _ rfl) rfl rfl rfl (laws_toColouring_ac k p0 _ hr1) ?_
  rintro _ _ ⟨rfl, rfl⟩
  refine ⟨(fun _ h => nomatch h), (allc (trivial) (fun _ h => nomatch h)), AOps_as 13 (v' := .d (.agg (colD r1))) (H' := []) rfl rfl ?_⟩
  obtain ⟨r2, hr2, h⟩ := bindO h
  refine AOps_call [] 14 _ _ _ _ _ _ _ _ _ _ rfl rfl rfl rfl rfl rfl rfl Try.call45 rfl (nodupB_sound _ rfl) rfl rfl rfl (spec_ConnectedColours_ac k r1 _ hr2) ?_
  rintro _ _ ⟨rfl, rfl⟩
  refine ⟨(fun _ h => nomatch h), (allc (trivial) (allc (trivial) (fun _ h => nomatch h))), AOps_as 14 (v' := .tup [.d (.sl none (intsD r2.1)), iV r2.2]) (H' := []) rfl rfl ?_⟩
  refine AOps_q 11 _ rfl rfl rfl (QOp_move _ _ rfl rfl) ?_
  refine AOps_q 15 _ rfl rfl rfl (QOp_extract _ _ _ _ rfl rfl rfl) ?_
  refine AOps_q 16 _ rfl rfl rfl (QOp_extract _ _ _ _ rfl rfl rfl) ?_
  refine AOps_q 3 _ rfl rfl rfl (QOp_assign _ _ rfl rfl) ?_
  refine AOps_q 4 _ rfl rfl rfl (QOp_assign _ _ rfl rfl) ?_
  refine AOps_nil ?_
  refine ACode_seq (ACode_region ?_)
  refine AOps_q 18 _ rfl rfl rfl (QOp_loadN_pv _ _ _ _ _ _ rfl Try.isAgg37 Try.sizeOf37 rfl (colD_all _) (colD_length _)) ?_
  obtain ⟨r3, hr3, h⟩ := bindO h
  refine AOps_call [] 19 _ _ _ _ _ _ _ _ _ _ rfl rfl rfl rfl rfl rfl rfl Try.call24 rfl (nodupB_sound _ rfl) rfl rfl rfl (laws_toColouring_ac k p0 _ hr3) ?_
  rintro _ _ ⟨rfl, rfl⟩
  refine ⟨(fun _ h => nomatch h), (allc (trivial) (fun _ h => nomatch h)), AOps_as 19 (v' := .d (.agg (colD r3))) (H' := []) rfl rfl ?_⟩
  obtain ⟨r4, hr4, h⟩ := bindO h
  refine AOps_call [] 20 _ _ _ _ _ _ _ _ _ _ rfl rfl rfl rfl rfl rfl rfl Try.call46 rfl (nodupB_sound _ rfl) rfl rfl rfl (impl_ConnectedColours_ac k r3 _ hr4) ?_
  revert h
  cases hx6 : r4.1 with
  | none =>
    intro h
    rintro _ _ ⟨rfl, rfl⟩
    refine ⟨(fun _ h => nomatch h), (allc (trivial) (allc (trivial) (fun _ h => nomatch h))), AOps_as 20 (v' := .tup [.d (.sl (some true) []), iV r4.2]) (H' := []) rfl rfl ?_⟩
    refine AOps_q 17 _ rfl rfl rfl (QOp_move _ _ rfl rfl) ?_
    refine AOps_q 21 _ rfl rfl rfl (QOp_extract _ _ _ _ rfl rfl rfl) ?_
    refine AOps_q 22 _ rfl rfl rfl (QOp_extract _ _ _ _ rfl rfl rfl) ?_
    refine AOps_q 5 _ rfl rfl rfl (QOp_assign _ _ rfl rfl) ?_
    refine AOps_q 6 _ rfl rfl rfl (QOp_assign _ _ rfl rfl) ?_
    refine AOps_nil ?_
    obtain ⟨os11, hss11, hks11⟩ := bindO h
    clear h
    refine ACode_seqJ (fun E' H' => ∃ s11 : Unit, os11 = .inl s11 ∧ Weak 66 G E' H' [(1, .d (.pv (colD p0) 0)), (3, .d (.sl none (intsD r2.1))), (4, iV r2.2), (5, .d (.sl (some true) []))] []) ?_ ?_
    · have h := hss11
      clear hss11
      obtain ⟨s9, hss9, hks9⟩ := bindO h
      clear h
      refine ACode_seqJ (fun E' H' => Weak 66 G E' H' [(1, .d (.pv (colD p0) 0)), (3, .d (.sl none (intsD r2.1))), (4, iV r2.2), (5, .d (.sl (some true) [])), (31, bV s9)] []) ?_ ?_
      · have h := hss9
        clear hss9
        refine (ACode_region ?_)
        refine AOps_q 23 _ rfl rfl rfl (QOp_move _ _ rfl rfl) ?_
        refine AOps_q 24 _ rfl rfl rfl (QOp_move _ _ rfl rfl) ?_
        obtain ⟨r7, hr7, h⟩ := bindO h
        refine AOps_call [] 25 _ _ _ _ _ _ _ _ _ _ rfl rfl rfl rfl rfl rfl rfl Try.call27 rfl (nodupB_sound _ rfl) rfl rfl rfl (laws_eqInt64S_ac k ([]) r2.1 _ hr7) ?_
        rintro _ _ ⟨rfl, rfl⟩
        refine ⟨(fun _ h => nomatch h), (allc (trivial) (fun _ h => nomatch h)), AOps_as 25 (v' := bV r7) (H' := []) rfl rfl ?_⟩
        refine AOps_q 26 _ rfl rfl rfl (QOp_not _ _ _ rfl rfl) ?_
        refine AOps_q 27 _ rfl rfl rfl (QOp_move _ _ rfl rfl) ?_
        refine AOps_case 27 _ rfl (fun hb8 => ?_) (fun hb8 => ?_)
        · have h := iteT hb8 h
          refine AOps_skip 28 rfl rfl rfl ?_
          refine AOps_skip 29 rfl rfl rfl ?_
          refine AOps_skip 30 rfl rfl rfl ?_
          refine AOps_q 31 _ rfl rfl rfl (QOp_pick_t _ _ _ _ rfl rfl rfl) ?_
          refine AOps_nil ?_
          cases h
          exact Weak_keep 0 hm [1, 3, 4, 5, 31] [] _ _ rfl rfl rfl
        · have h := iteF hb8 h
          refine AOps_q 28 _ rfl rfl rfl (QOp_move _ _ rfl rfl) ?_
          refine AOps_q 29 _ rfl rfl rfl (QOp_move _ _ rfl rfl) ?_
          refine AOps_q 30 _ rfl rfl rfl (QOp_neq _ _ _ _ _ _ _ rfl rfl rfl) ?_
          refine AOps_q 31 _ rfl rfl rfl (QOp_pick_f _ _ _ _ rfl rfl rfl) ?_
          refine AOps_nil ?_
          cases h
          exact Weak_keep 0 hm [1, 3, 4, 5, 31] [] _ _ rfl rfl rfl
      intro E' H' hw
      refine ACode_weak hw ?_
      have h := hks9
      refine ACode_cond _ rfl (fun hb10 => ?_) (fun hb10 => ?_)
      · have h := iteT hb10 h
        refine ACode_seq (ACode_region ?_)
        refine AOps_q 2 _ rfl rfl rfl (QOp_assign _ _ rfl rfl) ?_
        refine AOps_nil ?_
        refine ACode_ret ?_
        cases h
        have h := hks11
        cases h
        exact ⟨_, _, fun r a w h => ⟨r, h⟩, _, _, [], _, (.cons (ResV_tmp _ _ rfl) .nil), rfl, rfl, rfl, rfl, rfl⟩
      · have h := iteF hb10 h
        refine ACode_skip ?_
        cases h
        exact ⟨_, rfl, Weak_keep 0 hm [1, 3, 4, 5] [] _ _ rfl rfl rfl⟩
    rintro E' H' ⟨s11, rfl, hw⟩
    refine ACode_weak hw ?_
    have h := hks11
    refine ACode_seq (ACode_region ?_)
    refine AOps_q 7 _ rfl rfl rfl (QOp_assign _ _ rfl rfl) ?_
    refine AOps_nil ?_
    refine ACode_seq (ACode_region ?_)
    refine AOps_q 32 _ rfl rfl rfl (QOp_move _ _ rfl rfl) ?_
    refine AOps_q 33 _ rfl rfl rfl (QOp_move _ _ rfl rfl) ?_
    obtain ⟨r12, hr12, h⟩ := bindO h
    refine AOps_call [] 34 _ _ _ _ _ _ _ _ _ _ rfl rfl rfl rfl rfl rfl rfl Try.call30 rfl (nodupB_sound _ rfl) rfl rfl rfl (laws_markInt64S_d0_ac k ([]) 1 _ hr12) ?_
    rintro _ _ ⟨rfl, rfl⟩
    refine ⟨(fun _ h => nomatch h), (allc (trivial) (fun _ h => nomatch h)), AOps_as 34 (v' := iV r12) (H' := []) rfl rfl ?_⟩
    refine AOps_q 7 _ rfl rfl rfl (QOp_assign _ _ rfl rfl) ?_
    refine AOps_nil ?_
    refine ACode_seq (ACode_region ?_)
    refine AOps_q 8 _ rfl rfl rfl (QOp_assign _ _ rfl rfl) ?_
    refine AOps_nil ?_
    refine ACode_seq (ACode_region ?_)
    refine AOps_q 35 _ rfl rfl rfl (QOp_move _ _ rfl rfl) ?_
    refine AOps_q 36 _ rfl rfl rfl (QOp_move _ _ rfl rfl) ?_
    obtain ⟨r13, hr13, h⟩ := bindO h
    refine AOps_call [] 37 _ _ _ _ _ _ _ _ _ _ rfl rfl rfl rfl rfl rfl rfl Try.call31 rfl (nodupB_sound _ rfl) rfl rfl rfl (laws_heldInt64S_ac k ([]) 1 _ hr13) ?_
    rintro _ _ ⟨rfl, rfl⟩
    refine ⟨(fun _ h => nomatch h), (allc (trivial) (fun _ h => nomatch h)), AOps_as 37 (v' := iV r13) (H' := []) rfl rfl ?_⟩
    refine AOps_q 8 _ rfl rfl rfl (QOp_assign _ _ rfl rfl) ?_
    refine AOps_nil ?_
    refine ACode_seq ?_
    refine ACode_seq (ACode_region ?_)
    refine AOps_q 38 _ rfl rfl rfl (QOp_move _ _ rfl rfl) ?_
    refine AOps_q 39 _ rfl rfl rfl (QOp_lss _ _ _ _ _ _ _ rfl rfl rfl) ?_
    refine AOps_nil ?_
    refine ACode_cond _ rfl (fun hb14 => ?_) (fun hb14 => ?_)
    · have h := iteT hb14 h
      refine ACode_seq (ACode_region ?_)
      refine AOps_q 2 _ rfl rfl rfl (QOp_assign _ _ rfl rfl) ?_
      refine AOps_nil ?_
      refine ACode_ret ?_
      cases h
      exact ⟨_, _, fun r a w h => ⟨r, h⟩, _, _, [], _, (.cons (ResV_tmp _ _ rfl) .nil), rfl, rfl, rfl, rfl, rfl⟩
    · have h := iteF hb14 h
      refine ACode_skip ?_
      refine ACode_seq ?_
      refine ACode_seq (ACode_region ?_)
      refine AOps_q 40 _ rfl rfl rfl (QOp_move _ _ rfl rfl) ?_
      refine AOps_q 41 _ rfl rfl rfl (QOp_move _ _ rfl rfl) ?_
      refine AOps_q 42 _ rfl rfl rfl (QOp_neq _ _ _ _ _ _ _ rfl rfl rfl) ?_
      refine AOps_nil ?_
      refine ACode_cond _ rfl (fun hb15 => ?_) (fun hb15 => ?_)
      · have h := iteT hb15 h
        refine ACode_seq (ACode_region ?_)
        refine AOps_q 2 _ rfl rfl rfl (QOp_assign _ _ rfl rfl) ?_
        refine AOps_nil ?_
        refine ACode_ret ?_
        cases h
        exact ⟨_, _, fun r a w h => ⟨r, h⟩, _, _, [], _, (.cons (ResV_tmp _ _ rfl) .nil), rfl, rfl, rfl, rfl, rfl⟩
      · have h := iteF hb15 h
        refine ACode_skip ?_
        refine ACode_seq (ACode_region ?_)
        refine AOps_q 44 _ rfl rfl rfl (QOp_loadN_pv _ _ _ _ _ _ rfl Try.isAgg37 Try.sizeOf37 rfl (colD_all _) (colD_length _)) ?_
        obtain ⟨r16, hr16, h⟩ := bindO h
        refine AOps_call [] 45 _ _ _ _ _ _ _ _ _ _ rfl rfl rfl rfl rfl rfl rfl Try.call24 rfl (nodupB_sound _ rfl) rfl rfl rfl (laws_toColouring_ac k p0 _ hr16) ?_
        rintro _ _ ⟨rfl, rfl⟩
        refine ⟨(fun _ h => nomatch h), (allc (trivial) (fun _ h => nomatch h)), AOps_as 45 (v' := .d (.agg (colD r16))) (H' := []) rfl rfl ?_⟩
        obtain ⟨r17, hr17, h⟩ := bindO h
        refine AOps_call [] 46 _ _ _ _ _ _ _ _ _ _ rfl rfl rfl rfl rfl rfl rfl Try.call46 rfl (nodupB_sound _ rfl) rfl rfl rfl (impl_ConnectedColours_ac k r16 _ hr17) ?_
        revert h
        cases hx19 : r17.1 with
        | none =>
          intro h
          rintro _ _ ⟨rfl, rfl⟩
          refine ⟨(fun _ h => nomatch h), (allc (trivial) (allc (trivial) (fun _ h => nomatch h))), AOps_as 46 (v' := .tup [.d (.sl (some true) []), iV r17.2]) (H' := []) rfl rfl ?_⟩
          refine AOps_q 43 _ rfl rfl rfl (QOp_move _ _ rfl rfl) ?_
          refine AOps_q 47 _ rfl rfl rfl (QOp_extract _ _ _ _ rfl rfl rfl) ?_
          refine AOps_q 48 _ rfl rfl rfl (QOp_extract _ _ _ _ rfl rfl rfl) ?_
          refine AOps_q 9 _ rfl rfl rfl (QOp_assign _ _ rfl rfl) ?_
          refine AOps_q 10 _ rfl rfl rfl (QOp_assign _ _ rfl rfl) ?_
          refine AOps_nil ?_
          obtain ⟨os24, hss24, hks24⟩ := bindO h
          clear h
          refine ACode_seqJ (fun E' H' => ∃ s24 : Unit, os24 = .inl s24 ∧ Weak 66 G E' H' [(5, .d (.sl (some true) [])), (7, iV r12)] []) ?_ ?_
          · have h := hss24
            clear hss24
            obtain ⟨s22, hss22, hks22⟩ := bindO h
            clear h
            refine ACode_seqJ (fun E' H' => Weak 66 G E' H' [(5, .d (.sl (some true) [])), (7, iV r12), (57, bV s22)] []) ?_ ?_
            · have h := hss22
              clear hss22
              refine (ACode_region ?_)
              refine AOps_q 49 _ rfl rfl rfl (QOp_move _ _ rfl rfl) ?_
              refine AOps_q 50 _ rfl rfl rfl (QOp_move _ _ rfl rfl) ?_
              obtain ⟨r20, hr20, h⟩ := bindO h
              refine AOps_call [] 51 _ _ _ _ _ _ _ _ _ _ rfl rfl rfl rfl rfl rfl rfl Try.call27 rfl (nodupB_sound _ rfl) rfl rfl rfl (laws_eqInt64S_ac k ([]) r2.1 _ hr20) ?_
              rintro _ _ ⟨rfl, rfl⟩
              refine ⟨(fun _ h => nomatch h), (allc (trivial) (fun _ h => nomatch h)), AOps_as 51 (v' := bV r20) (H' := []) rfl rfl ?_⟩
              refine AOps_q 52 _ rfl rfl rfl (QOp_not _ _ _ rfl rfl) ?_
              refine AOps_q 53 _ rfl rfl rfl (QOp_move _ _ rfl rfl) ?_
              refine AOps_case 53 _ rfl (fun hb21 => ?_) (fun hb21 => ?_)
              · have h := iteT hb21 h
                refine AOps_skip 54 rfl rfl rfl ?_
                refine AOps_skip 55 rfl rfl rfl ?_
                refine AOps_skip 56 rfl rfl rfl ?_
                refine AOps_q 57 _ rfl rfl rfl (QOp_pick_t _ _ _ _ rfl rfl rfl) ?_
                refine AOps_nil ?_
                cases h
                exact Weak_keep 0 hm [5, 7, 57] [] _ _ rfl rfl rfl
              · have h := iteF hb21 h
                refine AOps_q 54 _ rfl rfl rfl (QOp_move _ _ rfl rfl) ?_
                refine AOps_q 55 _ rfl rfl rfl (QOp_move _ _ rfl rfl) ?_
                refine AOps_q 56 _ rfl rfl rfl (QOp_neq _ _ _ _ _ _ _ rfl rfl rfl) ?_
                refine AOps_q 57 _ rfl rfl rfl (QOp_pick_f _ _ _ _ rfl rfl rfl) ?_
                refine AOps_nil ?_
                cases h
                exact Weak_keep 0 hm [5, 7, 57] [] _ _ rfl rfl rfl
            intro E' H' hw
            refine ACode_weak hw ?_
            have h := hks22
            refine ACode_cond _ rfl (fun hb23 => ?_) (fun hb23 => ?_)
            · have h := iteT hb23 h
              refine ACode_seq (ACode_region ?_)
              refine AOps_q 2 _ rfl rfl rfl (QOp_assign _ _ rfl rfl) ?_
              refine AOps_nil ?_
              refine ACode_ret ?_
              cases h
              have h := hks24
              cases h
              exact ⟨_, _, fun r a w h => ⟨r, h⟩, _, _, [], _, (.cons (ResV_tmp _ _ rfl) .nil), rfl, rfl, rfl, rfl, rfl⟩
            · have h := iteF hb23 h
              refine ACode_skip ?_
              cases h
              exact ⟨_, rfl, Weak_keep 0 hm [5, 7] [] _ _ rfl rfl rfl⟩
          rintro E' H' ⟨s24, rfl, hw⟩
          refine ACode_weak hw ?_
          have h := hks24
          refine ACode_seq (ACode_region ?_)
          refine AOps_q 8 _ rfl rfl rfl (QOp_assign _ _ rfl rfl) ?_
          refine AOps_nil ?_
          refine ACode_seq (ACode_region ?_)
          refine AOps_q 58 _ rfl rfl rfl (QOp_move _ _ rfl rfl) ?_
          refine AOps_q 59 _ rfl rfl rfl (QOp_move _ _ rfl rfl) ?_
          obtain ⟨r25, hr25, h⟩ := bindO h
          refine AOps_call [] 60 _ _ _ _ _ _ _ _ _ _ rfl rfl rfl rfl rfl rfl rfl Try.call31 rfl (nodupB_sound _ rfl) rfl rfl rfl (laws_heldInt64S_ac k ([]) 1 _ hr25) ?_
          rintro _ _ ⟨rfl, rfl⟩
          refine ⟨(fun _ h => nomatch h), (allc (trivial) (fun _ h => nomatch h)), AOps_as 60 (v' := iV r25) (H' := []) rfl rfl ?_⟩
          refine AOps_q 8 _ rfl rfl rfl (QOp_assign _ _ rfl rfl) ?_
          refine AOps_nil ?_
          refine ACode_seq ?_
          refine ACode_seq (ACode_region ?_)
          refine AOps_q 61 _ rfl rfl rfl (QOp_move _ _ rfl rfl) ?_
          refine AOps_q 62 _ rfl rfl rfl (QOp_lss _ _ _ _ _ _ _ rfl rfl rfl) ?_
          refine AOps_nil ?_
          refine ACode_cond _ rfl (fun hb26 => ?_) (fun hb26 => ?_)
          · have h := iteT hb26 h
            refine ACode_seq (ACode_region ?_)
            refine AOps_q 2 _ rfl rfl rfl (QOp_assign _ _ rfl rfl) ?_
            refine AOps_nil ?_
            refine ACode_ret ?_
            cases h
            exact ⟨_, _, fun r a w h => ⟨r, h⟩, _, _, [], _, (.cons (ResV_tmp _ _ rfl) .nil), rfl, rfl, rfl, rfl, rfl⟩
          · have h := iteF hb26 h
            refine ACode_skip ?_
            refine ACode_seq ?_
            refine ACode_seq (ACode_region ?_)
            refine AOps_q 63 _ rfl rfl rfl (QOp_move _ _ rfl rfl) ?_
            refine AOps_q 64 _ rfl rfl rfl (QOp_move _ _ rfl rfl) ?_
            refine AOps_q 65 _ rfl rfl rfl (QOp_neq _ _ _ _ _ _ _ rfl rfl rfl) ?_
            refine AOps_nil ?_
            refine ACode_cond _ rfl (fun hb27 => ?_) (fun hb27 => ?_)
            · have h := iteT hb27 h
              refine ACode_seq (ACode_region ?_)
              refine AOps_q 2 _ rfl rfl rfl (QOp_assign _ _ rfl rfl) ?_
              refine AOps_nil ?_
              refine ACode_ret ?_
              cases h
              exact ⟨_, _, fun r a w h => ⟨r, h⟩, _, _, [], _, (.cons (ResV_tmp _ _ rfl) .nil), rfl, rfl, rfl, rfl, rfl⟩
            · have h := iteF hb27 h
              refine ACode_skip ?_
              refine ACode_seq (ACode_region ?_)
              refine AOps_q 2 _ rfl rfl rfl (QOp_assign _ _ rfl rfl) ?_
              refine AOps_nil ?_
              refine ACode_ret ?_
              cases h
              exact ⟨_, _, fun r a w h => ⟨r, h⟩, _, _, [], _, (.cons (ResV_tmp _ _ rfl) .nil), rfl, rfl, rfl, rfl, rfl⟩
        | some l18 =>
          intro h
          rintro _ _ ⟨rfl, rfl⟩
          refine ⟨(allc (fun _ _ => trivial) (fun _ h => nomatch h)), (allc (trivial) (allc (trivial) (fun _ h => nomatch h))), AOps_as 46 (v' := .tup [.vec 0 0, iV r17.2]) (H' := [.vec 0 (intsD l18)]) rfl rfl ?_⟩
          refine AOps_q 43 _ rfl rfl rfl (QOp_move _ _ rfl rfl) ?_
          refine AOps_q 47 _ rfl rfl rfl (QOp_extract _ _ _ _ rfl rfl rfl) ?_
          refine AOps_q 48 _ rfl rfl rfl (QOp_extract _ _ _ _ rfl rfl rfl) ?_
          refine AOps_q 9 _ rfl rfl rfl (QOp_assign _ _ rfl rfl) ?_
          refine AOps_q 10 _ rfl rfl rfl (QOp_assign _ _ rfl rfl) ?_
          refine AOps_nil ?_
          obtain ⟨os32, hss32, hks32⟩ := bindO h
          clear h
          refine ACode_seqJ (fun E' H' => ∃ s32 : Unit, os32 = .inl s32 ∧ Weak 66 G E' H' [(5, .d (.sl (some true) [])), (7, iV r12)] []) ?_ ?_
          · have h := hss32
            clear hss32
            obtain ⟨s30, hss30, hks30⟩ := bindO h
            clear h
            refine ACode_seqJ (fun E' H' => Weak 66 G E' H' [(5, .d (.sl (some true) [])), (7, iV r12), (57, bV s30)] []) ?_ ?_
            · have h := hss30
              clear hss30
              refine (ACode_region ?_)
              refine AOps_q 49 _ rfl rfl rfl (QOp_move _ _ rfl rfl) ?_
              refine AOps_q 50 _ rfl rfl rfl (QOp_move _ _ rfl rfl) ?_
              obtain ⟨r28, hr28, h⟩ := bindO h
              refine AOps_callL [] 51 _ _ _ _ _ _ _ _ _ _ rfl rfl rfl rfl rfl rfl rfl Try.call27 rfl (nodupB_sound _ rfl) rfl rfl rfl (laws_eqInt64S_ac k l18 r2.1 _ hr28) ?_
              rintro _ _ ⟨rfl, rfl⟩
              refine ⟨(fun _ h => nomatch h), (allc (flat_s _) (fun _ h => nomatch h)), AOps_as 51 (v' := bV r28) (H' := [.vec 0 (intsD l18)]) rfl rfl ?_⟩
              refine AOps_q 52 _ rfl rfl rfl (QOp_not _ _ _ rfl rfl) ?_
              refine AOps_q 53 _ rfl rfl rfl (QOp_move _ _ rfl rfl) ?_
              refine AOps_case 53 _ rfl (fun hb29 => ?_) (fun hb29 => ?_)
              · have h := iteT hb29 h
                refine AOps_skip 54 rfl rfl rfl ?_
                refine AOps_skip 55 rfl rfl rfl ?_
                refine AOps_skip 56 rfl rfl rfl ?_
                refine AOps_q 57 _ rfl rfl rfl (QOp_pick_t _ _ _ _ rfl rfl rfl) ?_
                refine AOps_nil ?_
                cases h
                exact Weak_keep 0 hm [5, 7, 57] [] _ _ rfl rfl rfl
              · have h := iteF hb29 h
                refine AOps_q 54 _ rfl rfl rfl (QOp_move _ _ rfl rfl) ?_
                refine AOps_q 55 _ rfl rfl rfl (QOp_move _ _ rfl rfl) ?_
                refine AOps_q 56 _ rfl rfl rfl (QOp_neq _ _ _ _ _ _ _ rfl rfl rfl) ?_
                refine AOps_q 57 _ rfl rfl rfl (QOp_pick_f _ _ _ _ rfl rfl rfl) ?_
                refine AOps_nil ?_
                cases h
                exact Weak_keep 0 hm [5, 7, 57] [] _ _ rfl rfl rfl
            intro E' H' hw
            refine ACode_weak hw ?_
            have h := hks30
            refine ACode_cond _ rfl (fun hb31 => ?_) (fun hb31 => ?_)
            · have h := iteT hb31 h
              refine ACode_seq (ACode_region ?_)
              refine AOps_q 2 _ rfl rfl rfl (QOp_assign _ _ rfl rfl) ?_
              refine AOps_nil ?_
              refine ACode_ret ?_
              cases h
              have h := hks32
              cases h
              exact ⟨_, _, fun r a w h => ⟨r, h⟩, _, _, [], _, (.cons (ResV_tmp _ _ rfl) .nil), rfl, rfl, rfl, rfl, rfl⟩
            · have h := iteF hb31 h
              refine ACode_skip ?_
              cases h
              exact ⟨_, rfl, Weak_keep 0 hm [5, 7] [] _ _ rfl rfl rfl⟩
          rintro E' H' ⟨s32, rfl, hw⟩
          refine ACode_weak hw ?_
          have h := hks32
          refine ACode_seq (ACode_region ?_)
          refine AOps_q 8 _ rfl rfl rfl (QOp_assign _ _ rfl rfl) ?_
          refine AOps_nil ?_
          refine ACode_seq (ACode_region ?_)
          refine AOps_q 58 _ rfl rfl rfl (QOp_move _ _ rfl rfl) ?_
          refine AOps_q 59 _ rfl rfl rfl (QOp_move _ _ rfl rfl) ?_
          obtain ⟨r33, hr33, h⟩ := bindO h
          refine AOps_call [] 60 _ _ _ _ _ _ _ _ _ _ rfl rfl rfl rfl rfl rfl rfl Try.call31 rfl (nodupB_sound _ rfl) rfl rfl rfl (laws_heldInt64S_ac k ([]) 1 _ hr33) ?_
          rintro _ _ ⟨rfl, rfl⟩
          refine ⟨(fun _ h => nomatch h), (allc (trivial) (fun _ h => nomatch h)), AOps_as 60 (v' := iV r33) (H' := []) rfl rfl ?_⟩
          refine AOps_q 8 _ rfl rfl rfl (QOp_assign _ _ rfl rfl) ?_
          refine AOps_nil ?_
          refine ACode_seq ?_
          refine ACode_seq (ACode_region ?_)
          refine AOps_q 61 _ rfl rfl rfl (QOp_move _ _ rfl rfl) ?_
          refine AOps_q 62 _ rfl rfl rfl (QOp_lss _ _ _ _ _ _ _ rfl rfl rfl) ?_
          refine AOps_nil ?_
          refine ACode_cond _ rfl (fun hb34 => ?_) (fun hb34 => ?_)
          · have h := iteT hb34 h
            refine ACode_seq (ACode_region ?_)
            refine AOps_q 2 _ rfl rfl rfl (QOp_assign _ _ rfl rfl) ?_
            refine AOps_nil ?_
            refine ACode_ret ?_
            cases h
            exact ⟨_, _, fun r a w h => ⟨r, h⟩, _, _, [], _, (.cons (ResV_tmp _ _ rfl) .nil), rfl, rfl, rfl, rfl, rfl⟩
          · have h := iteF hb34 h
            refine ACode_skip ?_
            refine ACode_seq ?_
            refine ACode_seq (ACode_region ?_)
            refine AOps_q 63 _ rfl rfl rfl (QOp_move _ _ rfl rfl) ?_
            refine AOps_q 64 _ rfl rfl rfl (QOp_move _ _ rfl rfl) ?_
            refine AOps_q 65 _ rfl rfl rfl (QOp_neq _ _ _ _ _ _ _ rfl rfl rfl) ?_
            refine AOps_nil ?_
            refine ACode_cond _ rfl (fun hb35 => ?_) (fun hb35 => ?_)
            · have h := iteT hb35 h
              refine ACode_seq (ACode_region ?_)
              refine AOps_q 2 _ rfl rfl rfl (QOp_assign _ _ rfl rfl) ?_
              refine AOps_nil ?_
              refine ACode_ret ?_
              cases h
              exact ⟨_, _, fun r a w h => ⟨r, h⟩, _, _, [], _, (.cons (ResV_tmp _ _ rfl) .nil), rfl, rfl, rfl, rfl, rfl⟩
            · have h := iteF hb35 h
              refine ACode_skip ?_
              refine ACode_seq (ACode_region ?_)
              refine AOps_q 2 _ rfl rfl rfl (QOp_assign _ _ rfl rfl) ?_
              refine AOps_nil ?_
              refine ACode_ret ?_
              cases h
              exact ⟨_, _, fun r a w h => ⟨r, h⟩, _, _, [], _, (.cons (ResV_tmp _ _ rfl) .nil), rfl, rfl, rfl, rfl, rfl⟩
  | some l5 =>
    intro h
    rintro _ _ ⟨rfl, rfl⟩
    refine ⟨(allc (fun _ _ => trivial) (fun _ h => nomatch h)), (allc (trivial) (allc (trivial) (fun _ h => nomatch h))), AOps_as 20 (v' := .tup [.vec 0 0, iV r4.2]) (H' := [.vec 0 (intsD l5)]) rfl rfl ?_⟩
    refine AOps_q 17 _ rfl rfl rfl (QOp_move _ _ rfl rfl) ?_
    refine AOps_q 21 _ rfl rfl rfl (QOp_extract _ _ _ _ rfl rfl rfl) ?_
    refine AOps_q 22 _ rfl rfl rfl (QOp_extract _ _ _ _ rfl rfl rfl) ?_
    refine AOps_q 5 _ rfl rfl rfl (QOp_assign _ _ rfl rfl) ?_
    refine AOps_q 6 _ rfl rfl rfl (QOp_assign _ _ rfl rfl) ?_
    refine AOps_nil ?_
    obtain ⟨os40, hss40, hks40⟩ := bindO h
    clear h
    refine ACode_seqJ (fun E' H' => ∃ s40 : Unit, os40 = .inl s40 ∧ Weak 66 G E' H' [(1, .d (.pv (colD p0) 0)), (3, .d (.sl none (intsD r2.1))), (4, iV r2.2), (5, .vec 0 0)] [.vec 0 (intsD l5)]) ?_ ?_
    · have h := hss40
      clear hss40
      obtain ⟨s38, hss38, hks38⟩ := bindO h
      clear h
      refine ACode_seqJ (fun E' H' => Weak 66 G E' H' [(1, .d (.pv (colD p0) 0)), (3, .d (.sl none (intsD r2.1))), (4, iV r2.2), (5, .vec 0 0), (31, bV s38)] [.vec 0 (intsD l5)]) ?_ ?_
      · have h := hss38
        clear hss38
        refine (ACode_region ?_)
        refine AOps_q 23 _ rfl rfl rfl (QOp_move _ _ rfl rfl) ?_
        refine AOps_q 24 _ rfl rfl rfl (QOp_move _ _ rfl rfl) ?_
        obtain ⟨r36, hr36, h⟩ := bindO h
        refine AOps_callL [] 25 _ _ _ _ _ _ _ _ _ _ rfl rfl rfl rfl rfl rfl rfl Try.call27 rfl (nodupB_sound _ rfl) rfl rfl rfl (laws_eqInt64S_ac k l5 r2.1 _ hr36) ?_
        rintro _ _ ⟨rfl, rfl⟩
        refine ⟨(fun _ h => nomatch h), (allc (flat_s _) (fun _ h => nomatch h)), AOps_as 25 (v' := bV r36) (H' := [.vec 0 (intsD l5)]) rfl rfl ?_⟩
        refine AOps_q 26 _ rfl rfl rfl (QOp_not _ _ _ rfl rfl) ?_
        refine AOps_q 27 _ rfl rfl rfl (QOp_move _ _ rfl rfl) ?_
        refine AOps_case 27 _ rfl (fun hb37 => ?_) (fun hb37 => ?_)
        · have h := iteT hb37 h
          refine AOps_skip 28 rfl rfl rfl ?_
          refine AOps_skip 29 rfl rfl rfl ?_
          refine AOps_skip 30 rfl rfl rfl ?_
          refine AOps_q 31 _ rfl rfl rfl (QOp_pick_t _ _ _ _ rfl rfl rfl) ?_
          refine AOps_nil ?_
          cases h
          exact Weak_keep 0 hm [1, 3, 4, 5, 31] [0] _ _ rfl rfl rfl
        · have h := iteF hb37 h
          refine AOps_q 28 _ rfl rfl rfl (QOp_move _ _ rfl rfl) ?_
          refine AOps_q 29 _ rfl rfl rfl (QOp_move _ _ rfl rfl) ?_
          refine AOps_q 30 _ rfl rfl rfl (QOp_neq _ _ _ _ _ _ _ rfl rfl rfl) ?_
          refine AOps_q 31 _ rfl rfl rfl (QOp_pick_f _ _ _ _ rfl rfl rfl) ?_
          refine AOps_nil ?_
          cases h
          exact Weak_keep 0 hm [1, 3, 4, 5, 31] [0] _ _ rfl rfl rfl
      intro E' H' hw
      refine ACode_weak hw ?_
      have h := hks38
      refine ACode_cond _ rfl (fun hb39 => ?_) (fun hb39 => ?_)
      · have h := iteT hb39 h
        refine ACode_seq (ACode_region ?_)
        refine AOps_q 2 _ rfl rfl rfl (QOp_assign _ _ rfl rfl) ?_
        refine AOps_nil ?_
        refine ACode_ret ?_
        cases h
        have h := hks40
        cases h
        exact ⟨_, _, fun r a w h => ⟨r, h⟩, _, _, [], _, (.cons (ResV_tmp _ _ rfl) .nil), rfl, rfl, rfl, rfl, rfl⟩
      · have h := iteF hb39 h
        refine ACode_skip ?_
        cases h
        exact ⟨_, rfl, Weak_keep 0 hm [1, 3, 4, 5] [0] _ _ rfl rfl rfl⟩
    rintro E' H' ⟨s40, rfl, hw⟩
    refine ACode_weak hw ?_
    have h := hks40
    refine ACode_seq (ACode_region ?_)
    refine AOps_q 7 _ rfl rfl rfl (QOp_assign _ _ rfl rfl) ?_
    refine AOps_nil ?_
    refine ACode_seq (ACode_region ?_)
    refine AOps_q 32 _ rfl rfl rfl (QOp_move _ _ rfl rfl) ?_
    refine AOps_q 33 _ rfl rfl rfl (QOp_move _ _ rfl rfl) ?_
    obtain ⟨r41, hr41, h⟩ := bindO h
    refine AOps_call [0] 34 _ _ _ _ _ _ _ _ _ _ rfl rfl rfl rfl rfl rfl rfl Try.call30 rfl (nodupB_sound _ rfl) rfl rfl rfl (laws_markInt64S_ac k l5 1 _ hr41) ?_
    rintro _ _ ⟨rfl, rfl⟩
    refine ⟨(allc (fun _ _ => trivial) (fun _ h => nomatch h)), (allc (trivial) (fun _ h => nomatch h)), AOps_as 34 (v' := iV r41.1) (H' := [.vec 0 (intsD r41.2)]) rfl rfl ?_⟩
    refine AOps_q 7 _ rfl rfl rfl (QOp_assign _ _ rfl rfl) ?_
    refine AOps_nil ?_
    refine ACode_seq (ACode_region ?_)
    refine AOps_q 8 _ rfl rfl rfl (QOp_assign _ _ rfl rfl) ?_
    refine AOps_nil ?_
    refine ACode_seq (ACode_region ?_)
    refine AOps_q 35 _ rfl rfl rfl (QOp_move _ _ rfl rfl) ?_
    refine AOps_q 36 _ rfl rfl rfl (QOp_move _ _ rfl rfl) ?_
    obtain ⟨r42, hr42, h⟩ := bindO h
    refine AOps_callL [] 37 _ _ _ _ _ _ _ _ _ _ rfl rfl rfl rfl rfl rfl rfl Try.call31 rfl (nodupB_sound _ rfl) rfl rfl rfl (laws_heldInt64S_ac k r41.2 1 _ hr42) ?_
    rintro _ _ ⟨rfl, rfl⟩
    refine ⟨(fun _ h => nomatch h), (allc (flat_s _) (fun _ h => nomatch h)), AOps_as 37 (v' := iV r42) (H' := [.vec 0 (intsD r41.2)]) rfl rfl ?_⟩
    refine AOps_q 8 _ rfl rfl rfl (QOp_assign _ _ rfl rfl) ?_
    refine AOps_nil ?_
    refine ACode_seq ?_
    refine ACode_seq (ACode_region ?_)
    refine AOps_q 38 _ rfl rfl rfl (QOp_move _ _ rfl rfl) ?_
    refine AOps_q 39 _ rfl rfl rfl (QOp_lss _ _ _ _ _ _ _ rfl rfl rfl) ?_
    refine AOps_nil ?_
    refine ACode_cond _ rfl (fun hb43 => ?_) (fun hb43 => ?_)
    · have h := iteT hb43 h
      refine ACode_seq (ACode_region ?_)
      refine AOps_q 2 _ rfl rfl rfl (QOp_assign _ _ rfl rfl) ?_
      refine AOps_nil ?_
      refine ACode_ret ?_
      cases h
      exact ⟨_, _, fun r a w h => ⟨r, h⟩, _, _, [], _, (.cons (ResV_tmp _ _ rfl) .nil), rfl, rfl, rfl, rfl, rfl⟩
    · have h := iteF hb43 h
      refine ACode_skip ?_
      refine ACode_seq ?_
      refine ACode_seq (ACode_region ?_)
      refine AOps_q 40 _ rfl rfl rfl (QOp_move _ _ rfl rfl) ?_
      refine AOps_q 41 _ rfl rfl rfl (QOp_move _ _ rfl rfl) ?_
      refine AOps_q 42 _ rfl rfl rfl (QOp_neq _ _ _ _ _ _ _ rfl rfl rfl) ?_
      refine AOps_nil ?_
      refine ACode_cond _ rfl (fun hb44 => ?_) (fun hb44 => ?_)
      · have h := iteT hb44 h
        refine ACode_seq (ACode_region ?_)
        refine AOps_q 2 _ rfl rfl rfl (QOp_assign _ _ rfl rfl) ?_
        refine AOps_nil ?_
        refine ACode_ret ?_
        cases h
        exact ⟨_, _, fun r a w h => ⟨r, h⟩, _, _, [], _, (.cons (ResV_tmp _ _ rfl) .nil), rfl, rfl, rfl, rfl, rfl⟩
      · have h := iteF hb44 h
        refine ACode_skip ?_
        refine ACode_seq (ACode_region ?_)
        refine AOps_q 44 _ rfl rfl rfl (QOp_loadN_pv _ _ _ _ _ _ rfl Try.isAgg37 Try.sizeOf37 rfl (colD_all _) (colD_length _)) ?_
        obtain ⟨r45, hr45, h⟩ := bindO h
        refine AOps_call [] 45 _ _ _ _ _ _ _ _ _ _ rfl rfl rfl rfl rfl rfl rfl Try.call24 rfl (nodupB_sound _ rfl) rfl rfl rfl (laws_toColouring_ac k p0 _ hr45) ?_
        rintro _ _ ⟨rfl, rfl⟩
        refine ⟨(fun _ h => nomatch h), (allc (trivial) (fun _ h => nomatch h)), AOps_as 45 (v' := .d (.agg (colD r45))) (H' := [.vec 0 (intsD r41.2)]) rfl rfl ?_⟩
        obtain ⟨r46, hr46, h⟩ := bindO h
        refine AOps_call [] 46 _ _ _ _ _ _ _ _ _ _ rfl rfl rfl rfl rfl rfl rfl Try.call46 rfl (nodupB_sound _ rfl) rfl rfl rfl (impl_ConnectedColours_ac k r45 _ hr46) ?_
        revert h
        cases hx48 : r46.1 with
        | none =>
          intro h
          rintro _ _ ⟨rfl, rfl⟩
          refine ⟨(fun _ h => nomatch h), (allc (trivial) (allc (trivial) (fun _ h => nomatch h))), AOps_as 46 (v' := .tup [.d (.sl (some true) []), iV r46.2]) (H' := [.vec 0 (intsD r41.2)]) rfl rfl ?_⟩
          refine AOps_q 43 _ rfl rfl rfl (QOp_move _ _ rfl rfl) ?_
          refine AOps_q 47 _ rfl rfl rfl (QOp_extract _ _ _ _ rfl rfl rfl) ?_
          refine AOps_q 48 _ rfl rfl rfl (QOp_extract _ _ _ _ rfl rfl rfl) ?_
          refine AOps_q 9 _ rfl rfl rfl (QOp_assign _ _ rfl rfl) ?_
          refine AOps_q 10 _ rfl rfl rfl (QOp_assign _ _ rfl rfl) ?_
          refine AOps_nil ?_
          obtain ⟨os53, hss53, hks53⟩ := bindO h
          clear h
          refine ACode_seqJ (fun E' H' => ∃ s53 : Unit, os53 = .inl s53 ∧ Weak 66 G E' H' [(5, .vec 0 0), (7, iV r41.1)] [.vec 0 (intsD r41.2)]) ?_ ?_
          · have h := hss53
            clear hss53
            obtain ⟨s51, hss51, hks51⟩ := bindO h
            clear h
            refine ACode_seqJ (fun E' H' => Weak 66 G E' H' [(5, .vec 0 0), (7, iV r41.1), (57, bV s51)] [.vec 0 (intsD r41.2)]) ?_ ?_
            · have h := hss51
              clear hss51
              refine (ACode_region ?_)
              refine AOps_q 49 _ rfl rfl rfl (QOp_move _ _ rfl rfl) ?_
              refine AOps_q 50 _ rfl rfl rfl (QOp_move _ _ rfl rfl) ?_
              obtain ⟨r49, hr49, h⟩ := bindO h
              refine AOps_call [] 51 _ _ _ _ _ _ _ _ _ _ rfl rfl rfl rfl rfl rfl rfl Try.call27 rfl (nodupB_sound _ rfl) rfl rfl rfl (laws_eqInt64S_ac k ([]) r2.1 _ hr49) ?_
              rintro _ _ ⟨rfl, rfl⟩
              refine ⟨(fun _ h => nomatch h), (allc (trivial) (fun _ h => nomatch h)), AOps_as 51 (v' := bV r49) (H' := [.vec 0 (intsD r41.2)]) rfl rfl ?_⟩
              refine AOps_q 52 _ rfl rfl rfl (QOp_not _ _ _ rfl rfl) ?_
              refine AOps_q 53 _ rfl rfl rfl (QOp_move _ _ rfl rfl) ?_
              refine AOps_case 53 _ rfl (fun hb50 => ?_) (fun hb50 => ?_)
              · have h := iteT hb50 h
                refine AOps_skip 54 rfl rfl rfl ?_
                refine AOps_skip 55 rfl rfl rfl ?_
                refine AOps_skip 56 rfl rfl rfl ?_
                refine AOps_q 57 _ rfl rfl rfl (QOp_pick_t _ _ _ _ rfl rfl rfl) ?_
                refine AOps_nil ?_
                cases h
                exact Weak_keep 0 hm [5, 7, 57] [0] _ _ rfl rfl rfl
              · have h := iteF hb50 h
                refine AOps_q 54 _ rfl rfl rfl (QOp_move _ _ rfl rfl) ?_
                refine AOps_q 55 _ rfl rfl rfl (QOp_move _ _ rfl rfl) ?_
                refine AOps_q 56 _ rfl rfl rfl (QOp_neq _ _ _ _ _ _ _ rfl rfl rfl) ?_
                refine AOps_q 57 _ rfl rfl rfl (QOp_pick_f _ _ _ _ rfl rfl rfl) ?_
                refine AOps_nil ?_
                cases h
                exact Weak_keep 0 hm [5, 7, 57] [0] _ _ rfl rfl rfl
            intro E' H' hw
            refine ACode_weak hw ?_
            have h := hks51
            refine ACode_cond _ rfl (fun hb52 => ?_) (fun hb52 => ?_)
            · have h := iteT hb52 h
              refine ACode_seq (ACode_region ?_)
              refine AOps_q 2 _ rfl rfl rfl (QOp_assign _ _ rfl rfl) ?_
              refine AOps_nil ?_
              refine ACode_ret ?_
              cases h
              have h := hks53
              cases h
              exact ⟨_, _, fun r a w h => ⟨r, h⟩, _, _, [], _, (.cons (ResV_tmp _ _ rfl) .nil), rfl, rfl, rfl, rfl, rfl⟩
            · have h := iteF hb52 h
              refine ACode_skip ?_
              cases h
              exact ⟨_, rfl, Weak_keep 0 hm [5, 7] [0] _ _ rfl rfl rfl⟩
          rintro E' H' ⟨s53, rfl, hw⟩
          refine ACode_weak hw ?_
          have h := hks53
          refine ACode_seq (ACode_region ?_)
          refine AOps_q 8 _ rfl rfl rfl (QOp_assign _ _ rfl rfl) ?_
          refine AOps_nil ?_
          refine ACode_seq (ACode_region ?_)
          refine AOps_q 58 _ rfl rfl rfl (QOp_move _ _ rfl rfl) ?_
          refine AOps_q 59 _ rfl rfl rfl (QOp_move _ _ rfl rfl) ?_
          obtain ⟨r54, hr54, h⟩ := bindO h
          refine AOps_callL [] 60 _ _ _ _ _ _ _ _ _ _ rfl rfl rfl rfl rfl rfl rfl Try.call31 rfl (nodupB_sound _ rfl) rfl rfl rfl (laws_heldInt64S_ac k r41.2 1 _ hr54) ?_
          rintro _ _ ⟨rfl, rfl⟩
          refine ⟨(fun _ h => nomatch h), (allc (flat_s _) (fun _ h => nomatch h)), AOps_as 60 (v' := iV r54) (H' := [.vec 0 (intsD r41.2)]) rfl rfl ?_⟩
          refine AOps_q 8 _ rfl rfl rfl (QOp_assign _ _ rfl rfl) ?_
          refine AOps_nil ?_
          refine ACode_seq ?_
          refine ACode_seq (ACode_region ?_)
          refine AOps_q 61 _ rfl rfl rfl (QOp_move _ _ rfl rfl) ?_
          refine AOps_q 62 _ rfl rfl rfl (QOp_lss _ _ _ _ _ _ _ rfl rfl rfl) ?_
          refine AOps_nil ?_
          refine ACode_cond _ rfl (fun hb55 => ?_) (fun hb55 => ?_)
          · have h := iteT hb55 h
            refine ACode_seq (ACode_region ?_)
            refine AOps_q 2 _ rfl rfl rfl (QOp_assign _ _ rfl rfl) ?_
            refine AOps_nil ?_
            refine ACode_ret ?_
            cases h
            exact ⟨_, _, fun r a w h => ⟨r, h⟩, _, _, [], _, (.cons (ResV_tmp _ _ rfl) .nil), rfl, rfl, rfl, rfl, rfl⟩
          · have h := iteF hb55 h
            refine ACode_skip ?_
            refine ACode_seq ?_
            refine ACode_seq (ACode_region ?_)
            refine AOps_q 63 _ rfl rfl rfl (QOp_move _ _ rfl rfl) ?_
            refine AOps_q 64 _ rfl rfl rfl (QOp_move _ _ rfl rfl) ?_
            refine AOps_q 65 _ rfl rfl rfl (QOp_neq _ _ _ _ _ _ _ rfl rfl rfl) ?_
            refine AOps_nil ?_
            refine ACode_cond _ rfl (fun hb56 => ?_) (fun hb56 => ?_)
            · have h := iteT hb56 h
              refine ACode_seq (ACode_region ?_)
              refine AOps_q 2 _ rfl rfl rfl (QOp_assign _ _ rfl rfl) ?_
              refine AOps_nil ?_
              refine ACode_ret ?_
              cases h
              exact ⟨_, _, fun r a w h => ⟨r, h⟩, _, _, [], _, (.cons (ResV_tmp _ _ rfl) .nil), rfl, rfl, rfl, rfl, rfl⟩
            · have h := iteF hb56 h
              refine ACode_skip ?_
              refine ACode_seq (ACode_region ?_)
              refine AOps_q 2 _ rfl rfl rfl (QOp_assign _ _ rfl rfl) ?_
              refine AOps_nil ?_
              refine ACode_ret ?_
              cases h
              exact ⟨_, _, fun r a w h => ⟨r, h⟩, _, _, [], _, (.cons (ResV_tmp _ _ rfl) .nil), rfl, rfl, rfl, rfl, rfl⟩
        | some l47 =>
          intro h
          rintro _ _ ⟨rfl, rfl⟩
          refine ⟨(allc (fun _ _ => trivial) (fun _ h => nomatch h)), (allc (trivial) (allc (trivial) (fun _ h => nomatch h))), AOps_as 46 (v' := .tup [.vec 1 0, iV r46.2]) (H' := [.vec 0 (intsD r41.2), .vec 0 (intsD l47)]) rfl rfl ?_⟩
          refine AOps_q 43 _ rfl rfl rfl (QOp_move _ _ rfl rfl) ?_
          refine AOps_q 47 _ rfl rfl rfl (QOp_extract _ _ _ _ rfl rfl rfl) ?_
          refine AOps_q 48 _ rfl rfl rfl (QOp_extract _ _ _ _ rfl rfl rfl) ?_
          refine AOps_q 9 _ rfl rfl rfl (QOp_assign _ _ rfl rfl) ?_
          refine AOps_q 10 _ rfl rfl rfl (QOp_assign _ _ rfl rfl) ?_
          refine AOps_nil ?_
          obtain ⟨os61, hss61, hks61⟩ := bindO h
          clear h
          refine ACode_seqJ (fun E' H' => ∃ s61 : Unit, os61 = .inl s61 ∧ Weak 66 G E' H' [(5, .vec 0 0), (7, iV r41.1)] [.vec 0 (intsD r41.2)]) ?_ ?_
          · have h := hss61
            clear hss61
            obtain ⟨s59, hss59, hks59⟩ := bindO h
            clear h
            refine ACode_seqJ (fun E' H' => Weak 66 G E' H' [(5, .vec 0 0), (7, iV r41.1), (57, bV s59)] [.vec 0 (intsD r41.2)]) ?_ ?_
            · have h := hss59
              clear hss59
              refine (ACode_region ?_)
              refine AOps_q 49 _ rfl rfl rfl (QOp_move _ _ rfl rfl) ?_
              refine AOps_q 50 _ rfl rfl rfl (QOp_move _ _ rfl rfl) ?_
              obtain ⟨r57, hr57, h⟩ := bindO h
              refine AOps_callL [] 51 _ _ _ _ _ _ _ _ _ _ rfl rfl rfl rfl rfl rfl rfl Try.call27 rfl (nodupB_sound _ rfl) rfl rfl rfl (laws_eqInt64S_ac k l47 r2.1 _ hr57) ?_
              rintro _ _ ⟨rfl, rfl⟩
              refine ⟨(fun _ h => nomatch h), (allc (flat_s _) (fun _ h => nomatch h)), AOps_as 51 (v' := bV r57) (H' := [.vec 0 (intsD r41.2), .vec 0 (intsD l47)]) rfl rfl ?_⟩
              refine AOps_q 52 _ rfl rfl rfl (QOp_not _ _ _ rfl rfl) ?_
              refine AOps_q 53 _ rfl rfl rfl (QOp_move _ _ rfl rfl) ?_
              refine AOps_case 53 _ rfl (fun hb58 => ?_) (fun hb58 => ?_)
              · have h := iteT hb58 h
                refine AOps_skip 54 rfl rfl rfl ?_
                refine AOps_skip 55 rfl rfl rfl ?_
                refine AOps_skip 56 rfl rfl rfl ?_
                refine AOps_q 57 _ rfl rfl rfl (QOp_pick_t _ _ _ _ rfl rfl rfl) ?_
                refine AOps_nil ?_
                cases h
                exact Weak_keep 0 hm [5, 7, 57] [0] _ _ rfl rfl rfl
              · have h := iteF hb58 h
                refine AOps_q 54 _ rfl rfl rfl (QOp_move _ _ rfl rfl) ?_
                refine AOps_q 55 _ rfl rfl rfl (QOp_move _ _ rfl rfl) ?_
                refine AOps_q 56 _ rfl rfl rfl (QOp_neq _ _ _ _ _ _ _ rfl rfl rfl) ?_
                refine AOps_q 57 _ rfl rfl rfl (QOp_pick_f _ _ _ _ rfl rfl rfl) ?_
                refine AOps_nil ?_
                cases h
                exact Weak_keep 0 hm [5, 7, 57] [0] _ _ rfl rfl rfl
            intro E' H' hw
            refine ACode_weak hw ?_
            have h := hks59
            refine ACode_cond _ rfl (fun hb60 => ?_) (fun hb60 => ?_)
            · have h := iteT hb60 h
              refine ACode_seq (ACode_region ?_)
              refine AOps_q 2 _ rfl rfl rfl (QOp_assign _ _ rfl rfl) ?_
              refine AOps_nil ?_
              refine ACode_ret ?_
              cases h
              have h := hks61
              cases h
              exact ⟨_, _, fun r a w h => ⟨r, h⟩, _, _, [], _, (.cons (ResV_tmp _ _ rfl) .nil), rfl, rfl, rfl, rfl, rfl⟩
            · have h := iteF hb60 h
              refine ACode_skip ?_
              cases h
              exact ⟨_, rfl, Weak_keep 0 hm [5, 7] [0] _ _ rfl rfl rfl⟩
          rintro E' H' ⟨s61, rfl, hw⟩
          refine ACode_weak hw ?_
          have h := hks61
          refine ACode_seq (ACode_region ?_)
          refine AOps_q 8 _ rfl rfl rfl (QOp_assign _ _ rfl rfl) ?_
          refine AOps_nil ?_
          refine ACode_seq (ACode_region ?_)
          refine AOps_q 58 _ rfl rfl rfl (QOp_move _ _ rfl rfl) ?_
          refine AOps_q 59 _ rfl rfl rfl (QOp_move _ _ rfl rfl) ?_
          obtain ⟨r62, hr62, h⟩ := bindO h
          refine AOps_callL [] 60 _ _ _ _ _ _ _ _ _ _ rfl rfl rfl rfl rfl rfl rfl Try.call31 rfl (nodupB_sound _ rfl) rfl rfl rfl (laws_heldInt64S_ac k r41.2 1 _ hr62) ?_
          rintro _ _ ⟨rfl, rfl⟩
          refine ⟨(fun _ h => nomatch h), (allc (flat_s _) (fun _ h => nomatch h)), AOps_as 60 (v' := iV r62) (H' := [.vec 0 (intsD r41.2)]) rfl rfl ?_⟩
          refine AOps_q 8 _ rfl rfl rfl (QOp_assign _ _ rfl rfl) ?_
          refine AOps_nil ?_
          refine ACode_seq ?_
          refine ACode_seq (ACode_region ?_)
          refine AOps_q 61 _ rfl rfl rfl (QOp_move _ _ rfl rfl) ?_
          refine AOps_q 62 _ rfl rfl rfl (QOp_lss _ _ _ _ _ _ _ rfl rfl rfl) ?_
          refine AOps_nil ?_
          refine ACode_cond _ rfl (fun hb63 => ?_) (fun hb63 => ?_)
          · have h := iteT hb63 h
            refine ACode_seq (ACode_region ?_)
            refine AOps_q 2 _ rfl rfl rfl (QOp_assign _ _ rfl rfl) ?_
            refine AOps_nil ?_
            refine ACode_ret ?_
            cases h
            exact ⟨_, _, fun r a w h => ⟨r, h⟩, _, _, [], _, (.cons (ResV_tmp _ _ rfl) .nil), rfl, rfl, rfl, rfl, rfl⟩
          · have h := iteF hb63 h
            refine ACode_skip ?_
            refine ACode_seq ?_
            refine ACode_seq (ACode_region ?_)
            refine AOps_q 63 _ rfl rfl rfl (QOp_move _ _ rfl rfl) ?_
            refine AOps_q 64 _ rfl rfl rfl (QOp_move _ _ rfl rfl) ?_
            refine AOps_q 65 _ rfl rfl rfl (QOp_neq _ _ _ _ _ _ _ rfl rfl rfl) ?_
            refine AOps_nil ?_
            refine ACode_cond _ rfl (fun hb64 => ?_) (fun hb64 => ?_)
            · have h := iteT hb64 h
              refine ACode_seq (ACode_region ?_)
              refine AOps_q 2 _ rfl rfl rfl (QOp_assign _ _ rfl rfl) ?_
              refine AOps_nil ?_
              refine ACode_ret ?_
              cases h
              exact ⟨_, _, fun r a w h => ⟨r, h⟩, _, _, [], _, (.cons (ResV_tmp _ _ rfl) .nil), rfl, rfl, rfl, rfl, rfl⟩
            · have h := iteF hb64 h
              refine ACode_skip ?_
              refine ACode_seq (ACode_region ?_)
              refine AOps_q 2 _ rfl rfl rfl (QOp_assign _ _ rfl rfl) ?_
              refine AOps_nil ?_
              refine ACode_ret ?_
              cases h
              exact ⟨_, _, fun r a w h => ⟨r, h⟩, _, _, [], _, (.cons (ResV_tmp _ _ rfl) .nil), rfl, rfl, rfl, rfl, rfl⟩

-- loop.example/g01362/spec.SidesOf
def spec_SidesOf_l0 : Nat → Int → (List Int) → Option (List Int)
  | 0, _, _ => none
  | k0 + 1, x5, x6 => (if decide (x5 < (x6.length : Int)) then (if 0 ≤ x5 ∧ x5 < (x6.length : Int) then spec_SidesOf_l0 k0 (w64 (x5 + 1)) (x6.set x5.toNat (-1)) else none) else some x6)
def spec_SidesOf_l3 (p0 : Col) (r3 : List Int) (x16 : Int) (x18 : List Int) : Nat → Int → (List Int) → (List Int) → Option (Sum (List Int × List Int) (Sum (List Int) (Sum (List Int) (List Int × Int))))
  | 0, _, _, _ => none
  | k3 + 1, x21, x22, x23 => (if decide (x21 < p0.p) then ((if 0 ≤ (x18.getD x16.toNat 0) ∧ (x18.getD x16.toNat 0) < (r3.length : Int) then (if 0 ≤ IntKind.u64.wrap x21 then (if decide (bAnd .i64 (bShr .i64 (r3.getD (x18.getD x16.toNat 0).toNat 0) (IntKind.u64.wrap x21)) 1 = 0) then some (.inl (x22, x23)) else (if 0 ≤ x21 ∧ x21 < (x22.length : Int) then (if 0 ≤ (x18.getD x16.toNat 0) ∧ (x18.getD x16.toNat 0) < (x22.length : Int) then (if decide ((x22.getD x21.toNat 0) = (x22.getD (x18.getD x16.toNat 0).toNat 0)) then (((some (.inr ([], 4))).bind fun rr => some (.inr rr)).bind fun rr => some (.inr rr)).bind fun rr => some (.inr rr) else (if 0 ≤ x21 ∧ x21 < (x22.length : Int) then (if decide ((x22.getD x21.toNat 0) < 0) then (if 0 ≤ (x18.getD x16.toNat 0) ∧ (x18.getD x16.toNat 0) < (x22.length : Int) then (if 0 ≤ x21 ∧ x21 < (x22.length : Int) then (if x23.length + ([x21]).length ≤ 1099511627776 then some (.inl (x22.set x21.toNat (w64 (1 - (x22.getD (x18.getD x16.toNat 0).toNat 0))), (x23 ++ ([x21])))) else none) else none) else none) else some (.inl (x22, x23))) else none)) else none) else none)) else none) else none) : Option (Sum (List Int × List Int) (Sum (List Int × List Int) (Sum (List Int) (Sum (List Int) (List Int × Int)))))).bind fun os36 => (match os36 with | .inl s36 => spec_SidesOf_l3 p0 r3 x16 x18 k3 (w64 (x21 + 1)) s36.1 s36.2 | .inr rr => some rr) else some (.inl (x22, x23)))
def spec_SidesOf_l2 (k : Nat) (p0 : Col) (r3 : List Int) : Nat → Int → (List Int) → (List Int) → Option (Sum (List Int) (Sum (List Int) (List Int × Int)))
  | 0, _, _, _ => none
  | k2 + 1, x16, x17, x18 => (if decide (x16 < (x18.length : Int)) then ((if 0 ≤ x16 ∧ x16 < (x18.length : Int) then spec_SidesOf_l3 p0 r3 x16 x18 k 0 x17 x18 else none) : Option (Sum (List Int × List Int) (Sum (List Int) (Sum (List Int) (List Int × Int))))).bind fun os37 => (match os37 with | .inl s37 => spec_SidesOf_l2 k p0 r3 k2 (w64 (x16 + 1)) s37.1 s37.2 | .inr rr => some rr) else some (.inl x17))
def spec_SidesOf_l1 (k : Nat) (p0 : Col) (r3 : List Int) : Nat → Int → (List Int) → Option (Sum (List Int) (List Int × Int))
  | 0, _, _ => none
  | k1 + 1, x10, x11 => (if decide (x10 < p0.p) then ((if 0 ≤ x10 ∧ x10 < (x11.length : Int) then (if decide (0 ≤ (x11.getD x10.toNat 0)) then some (.inl x11) else (if 0 ≤ x10 ∧ x10 < (x11.length : Int) then spec_SidesOf_l2 k p0 r3 k 0 (x11.set x10.toNat 0) ([x10]) else none)) else none) : Option (Sum (List Int) (Sum (List Int) (List Int × Int)))).bind fun os38 => (match os38 with | .inl s38 => spec_SidesOf_l1 k p0 r3 k1 (w64 (x10 + 1)) s38 | .inr rr => some rr) else some (.inl x11))
def spec_SidesOf (k : Nat) (p0 : Col) (p1 : Int) : Option (List Int × Int) :=
  (spec_l01Given k p0 p1 ([])).bind fun r1 => (if !decide (r1 = 0) then some ([], r1) else (spec_l02Rows k p0 p1).bind fun r3 => (if 0 ≤ p0.p ∧ p0.p ≤ p0.p ∧ p0.p ≤ 1099511627776 then (spec_SidesOf_l0 k 0 (List.replicate p0.p.toNat (0 : Int)) : Option (List Int)).bind fun s9 => (spec_SidesOf_l1 k p0 r3 k 0 s9 : Option (Sum (List Int) (List Int × Int))).bind fun os39 => (match os39 with | .inl s39 => some (s39, 0) | .inr rr => some rr) else none))
set_option maxRecDepth 100000 in
theorem spec_SidesOf_ac (k : Nat) (p0 : Col) (p1 : Int) (r : List Int × Int) (h : spec_SidesOf k p0 p1 = some r) : AC Try.prog 47 [.d (.agg (colD p0)), iV p1] [] (fun res H' => res = [.d (.sl none (intsD r.1)), iV r.2] ∧ H' = []) := by
  refine AC_of_body true Try.func47 rfl Try.ntmps47 (rvs := [.tmp 4, .tmp 5]) rfl rfl (fun G hG => ?_)
  have hm : G.H.length = 0 := by rw [hG]; rfl
  have hz : zeroG G.H = true := by rw [hG]; rfl
  unfold spec_SidesOf at h
  refine ACode_seq (ACode_region ?_)
  refine AOps_boxI 2 _ _ (.agg (colD p0)) (colD p0) rfl (colD_one _) rfl rfl rfl rfl rfl ?_
  refine AOps_q 4 _ rfl rfl rfl (QOp_assign _ _ rfl rfl) ?_
  refine AOps_q 5 _ rfl rfl rfl (QOp_assign _ _ rfl rfl) ?_
  refine AOps_nil ?_
  refine ACode_seq ?_
  refine ACode_seq (ACode_region ?_)
  refine AOps_q 15 _ rfl rfl rfl (QOp_loadN_pv _ _ _ _ _ _ rfl Try.isAgg24 Try.sizeOf24 rfl (colD_all _) (colD_length _)) ?_
  refine AOps_q 16 _ rfl rfl rfl (QOp_move _ _ rfl rfl) ?_
  obtain ⟨r1, hr1, h⟩ := bindO h
  refine AOps_call [] 17 _ _ _ _ _ _ _ _ _ _ rfl rfl rfl rfl rfl rfl rfl Try.call63 rfl (nodupB_sound _ rfl) rfl rfl rfl (spec_l01Given_ac k p0 p1 ([]) _ hr1) ?_
  rintro _ _ ⟨rfl, rfl⟩
  refine ⟨(fun _ h => nomatch h), (allc (trivial) (fun _ h => nomatch h)), AOps_as 17 (v' := iV r1) (H' := []) rfl rfl ?_⟩
  refine AOps_q 6 _ rfl rfl rfl (QOp_assign _ _ rfl rfl) ?_
  refine AOps_nil ?_
  refine ACode_seq (ACode_region ?_)
  refine AOps_q 18 _ rfl rfl rfl (QOp_move _ _ rfl rfl) ?_
  refine AOps_q 19 _ rfl rfl rfl (QOp_neq _ _ _ _ _ _ _ rfl rfl rfl) ?_
  refine AOps_nil ?_
  refine ACode_cond _ rfl (fun hb2 => ?_) (fun hb2 => ?_)
  · have h := iteT hb2 h
    refine ACode_seq (ACode_region ?_)
    refine AOps_q 20 _ rfl rfl rfl (QOp_move _ _ rfl rfl) ?_
    refine AOps_q 4 _ rfl rfl rfl (QOp_assign _ _ rfl rfl) ?_
    refine AOps_q 5 _ rfl rfl rfl (QOp_assign _ _ rfl rfl) ?_
    refine AOps_nil ?_
    refine ACode_ret ?_
    cases h
    exact ⟨_, _, fun r a w h => ⟨r, h⟩, _, _, [], _, (.cons (ResV_tmp _ _ rfl) (.cons (ResV_tmp _ _ rfl) .nil)), rfl, rfl, rfl, rfl, rfl⟩
  · have h := iteF hb2 h
    refine ACode_skip ?_
    obtain ⟨r3, hr3, h⟩ := bindO h
    obtain ⟨hc4, h⟩ := guardO h
    refine ACode_seqJ (fun E' H' => Weak 104 G E' H' [(2, .d (.pv (colD p0) 0)), (7, .vec 0 0), (8, .vec 1 0)] [.vec 0 (intsD r3), .vec 0 (intsD (List.replicate p0.p.toNat (0 : Int)))]) ?_ ?_
    · refine ACode_any mixed ?_
      refine AAny_q 0 21 _ rfl (by kernel_rfl) rfl rfl rfl (QOp_loadN_pv _ _ _ _ _ _ rfl Try.isAgg24 Try.sizeOf24 rfl (colD_all _) (colD_length _)) ?_
      refine AAny_q 1 22 _ rfl (by kernel_rfl) rfl rfl rfl (QOp_move _ _ rfl rfl) ?_
      refine AAny_q 3 24 _ rfl (by kernel_rfl) rfl rfl rfl (QOp_fieldAddr_pv _ _ _ _ _ 0 _ _ rfl Try.underlying24 rfl _ Try.sizeOf2 rfl rfl) ?_
      refine AAny_q 4 25 _ rfl (by kernel_rfl) rfl rfl rfl (QOp_load_pv _ _ _ _ _ rfl Try.isAgg2 rfl rfl) ?_
      refine AAny_all [2, 5] (by kernel_rfl) rfl (allc ?_ (allc ?_ (fun _ h => nomatch h)))
      · refine AStep_call 2 23 _ _ _ _ _ _ _ _ _ rfl rfl rfl rfl rfl rfl rfl rfl Try.call93 rfl rfl rfl (spec_l02Rows_ac k p0 p1 _ hr3) ?_
        rintro _ _ ⟨rfl, rfl⟩
        refine ⟨(allc (intsD_flat _) (fun _ h => nomatch h)), (allc (trivial) (fun _ h => nomatch h)), AAny_as 23 (v' := .vec 0 0) (H' := [.vec 0 (intsD r3)]) rfl rfl ?_⟩
        refine AAny_q 6 7 _ rfl (by kernel_rfl) rfl rfl rfl (QOp_assign _ _ rfl rfl) ?_
        refine AAny_all [5] (by kernel_rfl) rfl (allc ?_ (fun _ h => nomatch h))
        · refine AStep_of 5 rfl rfl (Bl_makeSlice _ _ _ _ _ _ p0.p p0.p _ (.int .i64 0) rfl Try.underlying38 Try.type2 rfl rfl rfl (by decide) rfl rfl hc4.1 hc4.2.1 hc4.2.2) ?_
          refine AOps_makeSliceG intsD iD 0 (intsD_rep · _) 26 _ _ _ _ _ _ p0.p p0.p _ (.int .i64 0) rfl rfl rfl rfl rfl rfl Try.underlying38 Try.type2 rfl rfl (by decide) rfl rfl hc4.1 hc4.2.1 hc4.2.2 ?_
          refine AOps_nil ?_
          refine AAny_q 7 8 _ rfl (by kernel_rfl) rfl rfl rfl (QOp_assign _ _ rfl rfl) ?_
          refine AAny_done (by kernel_rfl) ?_
          exact Weak_keep 0 hm [2, 7, 8] [0, 1] _ _ rfl rfl rfl
      · refine AStep_of 5 rfl rfl (Bl_makeSlice _ _ _ _ _ _ p0.p p0.p _ (.int .i64 0) rfl Try.underlying38 Try.type2 rfl rfl rfl (by decide) rfl rfl hc4.1 hc4.2.1 hc4.2.2) ?_
        refine AOps_makeSliceG intsD iD 0 (intsD_rep · _) 26 _ _ _ _ _ _ p0.p p0.p _ (.int .i64 0) rfl rfl rfl rfl rfl rfl Try.underlying38 Try.type2 rfl rfl (by decide) rfl rfl hc4.1 hc4.2.1 hc4.2.2 ?_
        refine AOps_nil ?_
        refine AAny_all [2] (by kernel_rfl) rfl (allc ?_ (fun _ h => nomatch h))
        · refine AStep_call 2 23 _ _ _ _ _ _ _ _ _ rfl rfl rfl rfl rfl rfl rfl rfl Try.call93 rfl rfl rfl (spec_l02Rows_ac k p0 p1 _ hr3) ?_
          rintro _ _ ⟨rfl, rfl⟩
          refine ⟨(allc (intsD_flat _) (fun _ h => nomatch h)), (allc (trivial) (fun _ h => nomatch h)), AAny_as 23 (v' := .vec 1 0) (H' := [.vec 0 (intsD (List.replicate p0.p.toNat (0 : Int))), .vec 0 (intsD r3)]) rfl rfl ?_⟩
          refine AAny_q 6 7 _ rfl (by kernel_rfl) rfl rfl rfl (QOp_assign _ _ rfl rfl) ?_
          refine AAny_q 7 8 _ rfl (by kernel_rfl) rfl rfl rfl (QOp_assign _ _ rfl rfl) ?_
          refine AAny_done (by kernel_rfl) ?_
          exact Weak_keep 0 hm [2, 7, 8] [1, 0] _ _ rfl rfl rfl
    intro E' H' hw
    refine ACode_weak hw ?_
    obtain ⟨s9, hss9, hks9⟩ := bindO h
    clear h
    refine ACode_seqJ (fun E' H' => Weak 104 G E' H' [(2, .d (.pv (colD p0) 0)), (7, .vec 0 0), (8, .vec 1 0)] [.vec 0 (intsD r3), .vec 0 (intsD s9)]) ?_ ?_
    · have h := hss9
      clear hss9
      refine ACode_seq (ACode_region ?_)
      refine AOps_q 9 _ rfl rfl rfl (QOp_assign _ _ rfl rfl) ?_
      refine AOps_nil ?_
      refine ACode_block ?_
      refine ACode_loopW (fun k0 E H => ∃ (x5 : Int) (x6 : List Int), E = [(2, .d (.pv (colD p0) 0)), (7, .vec 0 0), (8, .vec 1 0), (9, iV x5)] ∧ H = [.vec 0 (intsD r3), .vec 0 (intsD x6)] ∧ spec_SidesOf_l0 k0 x5 x6 = some s9) k _ _ (Weak_keep 0 hm [2, 7, 8, 9] [0, 1] _ _ rfl rfl rfl) ⟨_, _, rfl, rfl, h⟩ ?_
      clear h
      rintro k0 E H ⟨x5, x6, rfl, rfl, h⟩
      cases k0 with
      | zero => cases (show (none : Option (List Int)) = some _ from h)
      | succ k0 =>
        rw [spec_SidesOf_l0] at h
        refine ACode_seq ?_
        refine ACode_seq (ACode_region ?_)
        refine AOps_q 27 _ rfl rfl rfl (QOp_move _ _ rfl rfl) ?_
        refine AOps_q 28 _ rfl rfl rfl (QOp_move _ _ rfl rfl) ?_
        refine AOps_q 29 _ rfl rfl rfl (QOp_len_vec _ _ _ _ _ _ _ _ (intsD_length _) rfl rfl rfl rfl Try.underlying38 rfl rfl) ?_
        refine AOps_q 30 _ rfl rfl rfl (QOp_lss _ _ _ _ _ _ _ rfl rfl rfl) ?_
        refine AOps_nil ?_
        refine ACode_cond _ rfl (fun hb7 => ?_) (fun hb7 => ?_)
        · have h := iteT hb7 h
          refine ACode_skip ?_
          refine ACode_seq ?_
          refine ACode_block ?_
          refine (ACode_region ?_)
          refine AOps_q 33 _ rfl rfl rfl (QOp_move _ _ rfl rfl) ?_
          refine AOps_q 34 _ rfl rfl rfl (QOp_move _ _ rfl rfl) ?_
          obtain ⟨hc8, h⟩ := guardO h
          refine AOps_q 35 _ rfl rfl rfl (QOp_indexAddr_vec _ _ _ _ _ _ _ _ _ rfl Try.underlying38 Try.sizeOf2 hc8.1 (by rw [intsD_length]; exact hc8.2) rfl rfl rfl) ?_
          refine AOps_store_eptr _ _ _ _ _ _ (intsD x6) _ rfl rfl rfl rfl rfl rfl rfl Try.sizeOf2 (by rw [intsD_length]; omega) ?_
          rw [intsD_set]
          refine AOps_nil ?_
          refine (ACode_region ?_)
          refine AOps_q 31 _ rfl rfl rfl (QOp_move _ _ rfl rfl) ?_
          refine AOps_q 32 _ rfl rfl rfl (QOp_add _ _ _ _ _ _ _ rfl rfl rfl) ?_
          refine AOps_q 9 _ rfl rfl rfl (QOp_assign _ _ rfl rfl) ?_
          refine AOps_nil ?_
          exact ⟨k0, _, _, Nat.lt_succ_self _, Weak_keep 0 hm [2, 7, 8, 9] [0, 1] _ _ rfl rfl rfl, _, _, rfl, rfl, h⟩
        · have h := iteF hb7 h
          refine ACode_exit ?_
          cases h
          exact Weak_keep 0 hm [2, 7, 8] [0, 1] _ _ rfl rfl rfl
    intro E' H' hw
    refine ACode_weak hw ?_
    have h := hks9
    obtain ⟨os39, hss39, hks39⟩ := bindO h
    clear h
    refine ACode_seqJ (fun E' H' => ∃ s39 : List Int, os39 = .inl s39 ∧ Weak 104 G E' H' [(8, .vec 0 0)] [.vec 0 (intsD s39)]) ?_ ?_
    · have h := hss39
      clear hss39
      refine ACode_seq (ACode_region ?_)
      refine AOps_q 10 _ rfl rfl rfl (QOp_assign _ _ rfl rfl) ?_
      refine AOps_nil ?_
      refine ACode_block ?_
      refine ACode_loopW (fun k1 E H => ∃ (x10 : Int) (x11 : List Int), E = [(2, .d (.pv (colD p0) 0)), (7, .vec 0 0), (8, .vec 1 0), (10, iV x10)] ∧ H = [.vec 0 (intsD r3), .vec 0 (intsD x11)] ∧ spec_SidesOf_l1 k p0 r3 k1 x10 x11 = some os39) k _ _ (Weak_keep 0 hm [2, 7, 8, 10] [0, 1] _ _ rfl rfl rfl) ⟨_, _, rfl, rfl, h⟩ ?_
      clear h
      rintro k1 E H ⟨x10, x11, rfl, rfl, h⟩
      cases k1 with
      | zero => cases (show (none : Option (Sum (List Int) (List Int × Int))) = some _ from h)
      | succ k1 =>
        rw [spec_SidesOf_l1] at h
        refine ACode_seq ?_
        refine ACode_seq (ACode_region ?_)
        refine AOps_q 36 _ rfl rfl rfl (QOp_move _ _ rfl rfl) ?_
        refine AOps_q 37 _ rfl rfl rfl (QOp_fieldAddr_pv _ _ _ _ _ 0 _ _ rfl Try.underlying24 rfl _ Try.sizeOf2 rfl rfl) ?_
        refine AOps_q 38 _ rfl rfl rfl (QOp_load_pv _ _ _ _ _ rfl Try.isAgg2 rfl rfl) ?_
        refine AOps_q 39 _ rfl rfl rfl (QOp_lss _ _ _ _ _ _ _ rfl rfl rfl) ?_
        refine AOps_nil ?_
        refine ACode_cond _ rfl (fun hb12 => ?_) (fun hb12 => ?_)
        · have h := iteT hb12 h
          refine ACode_skip ?_
          obtain ⟨os38, hss38, hks38⟩ := bindO h
          clear h
          refine ACode_seqJ (fun E' H' => ∃ s38 : List Int, os38 = .inl s38 ∧ Weak 104 G E' H' [(2, .d (.pv (colD p0) 0)), (7, .vec 0 0), (8, .vec 1 0), (10, iV x10)] [.vec 0 (intsD r3), .vec 0 (intsD s38)]) ?_ ?_
          · have h := hss38
            clear hss38
            refine ACode_block ?_
            refine ACode_seq ?_
            refine ACode_seq (ACode_region ?_)
            refine AOps_q 42 _ rfl rfl rfl (QOp_move _ _ rfl rfl) ?_
            refine AOps_q 43 _ rfl rfl rfl (QOp_move _ _ rfl rfl) ?_
            obtain ⟨hc13, h⟩ := guardO h
            refine AOps_q 44 _ rfl rfl rfl (QOp_indexAddr_vec _ _ _ _ _ _ _ _ _ rfl Try.underlying38 Try.sizeOf2 hc13.1 (by rw [intsD_length]; exact hc13.2) rfl rfl rfl) ?_
            refine AOps_q 45 _ rfl rfl rfl (QOp_load_eptr _ _ _ _ _ _ _ rfl Try.isAgg2 rfl rfl (intsD_get _ _ 0 (by omega))) ?_
            refine AOps_q 46 _ rfl rfl rfl (QOp_geq _ _ _ _ _ _ _ rfl rfl rfl) ?_
            refine AOps_nil ?_
            refine ACode_cond _ rfl (fun hb14 => ?_) (fun hb14 => ?_)
            · have h := iteT hb14 h
              refine ACode_exit ?_
              cases h
              exact ⟨_, rfl, Weak_keep 0 hm [2, 7, 8, 10] [0, 1] _ _ rfl rfl rfl⟩
            · have h := iteF hb14 h
              refine ACode_skip ?_
              refine ACode_seq (ACode_region ?_)
              refine AOps_q 47 _ rfl rfl rfl (QOp_move _ _ rfl rfl) ?_
              refine AOps_q 48 _ rfl rfl rfl (QOp_move _ _ rfl rfl) ?_
              obtain ⟨hc15, h⟩ := guardO h
              refine AOps_q 49 _ rfl rfl rfl (QOp_indexAddr_vec _ _ _ _ _ _ _ _ _ rfl Try.underlying38 Try.sizeOf2 hc15.1 (by rw [intsD_length]; exact hc15.2) rfl rfl rfl) ?_
              refine AOps_store_eptr _ _ _ _ _ _ (intsD x11) _ rfl rfl rfl rfl rfl rfl rfl Try.sizeOf2 (by rw [intsD_length]; omega) ?_
              rw [intsD_set]
              refine AOps_nil ?_
              refine ACode_seq (ACode_region ?_)
              refine AOps_q 50 _ rfl rfl rfl (QOp_move _ _ rfl rfl) ?_
              refine AOps_buildSlice 51 _ _ _ [_] (intsD ([x10])) _ rfl rfl rfl rfl rfl (by decide) Try.underlying38 Try.sizeOf2 (zero_of Try.typeInfo2 rfl) rfl rfl (intsD_one _) ?_
              refine AOps_q 11 _ rfl rfl rfl (QOp_assign _ _ rfl rfl) ?_
              refine AOps_nil ?_
              refine ACode_seq (ACode_region ?_)
              refine AOps_q 12 _ rfl rfl rfl (QOp_assign _ _ rfl rfl) ?_
              refine AOps_nil ?_
              refine ACode_block ?_
              refine ACode_loopW (fun k2 E H => ∃ (x16 : Int) (x17 : List Int) (x18 : List Int), E = [(2, .d (.pv (colD p0) 0)), (7, .vec 0 0), (8, .vec 1 0), (10, iV x10), (11, .vec 2 0), (12, iV x16)] ∧ H = [.vec 0 (intsD r3), .vec 0 (intsD x17), .vec 0 (intsD x18)] ∧ spec_SidesOf_l2 k p0 r3 k2 x16 x17 x18 = some os38) k _ _ (Weak_keep 0 hm [2, 7, 8, 10, 11, 12] [0, 1, 2] _ _ rfl rfl rfl) ⟨_, _, _, rfl, rfl, h⟩ ?_
              clear h
              rintro k2 E H ⟨x16, x17, x18, rfl, rfl, h⟩
              cases k2 with
              | zero => cases (show (none : Option (Sum (List Int) (Sum (List Int) (List Int × Int)))) = some _ from h)
              | succ k2 =>
                rw [spec_SidesOf_l2] at h
                refine ACode_seq ?_
                refine ACode_seq (ACode_region ?_)
                refine AOps_q 52 _ rfl rfl rfl (QOp_move _ _ rfl rfl) ?_
                refine AOps_q 53 _ rfl rfl rfl (QOp_move _ _ rfl rfl) ?_
                refine AOps_q 54 _ rfl rfl rfl (QOp_len_vec _ _ _ _ _ _ _ _ (intsD_length _) rfl rfl rfl rfl Try.underlying38 rfl rfl) ?_
                refine AOps_q 55 _ rfl rfl rfl (QOp_lss _ _ _ _ _ _ _ rfl rfl rfl) ?_
                refine AOps_nil ?_
                refine ACode_cond _ rfl (fun hb19 => ?_) (fun hb19 => ?_)
                · have h := iteT hb19 h
                  refine ACode_skip ?_
                  obtain ⟨os37, hss37, hks37⟩ := bindO h
                  clear h
                  refine ACode_seqJ (fun E' H' => ∃ s37 : List Int × List Int, os37 = .inl s37 ∧ Weak 104 G E' H' [(2, .d (.pv (colD p0) 0)), (7, .vec 0 0), (8, .vec 1 0), (10, iV x10), (11, .vec 2 0), (12, iV x16)] [.vec 0 (intsD r3), .vec 0 (intsD s37.1), .vec 0 (intsD s37.2)]) ?_ ?_
                  · have h := hss37
                    clear hss37
                    refine ACode_block ?_
                    refine ACode_seq (ACode_region ?_)
                    refine AOps_q 58 _ rfl rfl rfl (QOp_move _ _ rfl rfl) ?_
                    refine AOps_q 59 _ rfl rfl rfl (QOp_move _ _ rfl rfl) ?_
                    obtain ⟨hc20, h⟩ := guardO h
                    refine AOps_q 60 _ rfl rfl rfl (QOp_indexAddr_vec _ _ _ _ _ _ _ _ _ rfl Try.underlying38 Try.sizeOf2 hc20.1 (by rw [intsD_length]; exact hc20.2) rfl rfl rfl) ?_
                    refine AOps_q 61 _ rfl rfl rfl (QOp_load_eptr _ _ _ _ _ _ _ rfl Try.isAgg2 rfl rfl (intsD_get _ _ 0 (by omega))) ?_
                    refine AOps_q 13 _ rfl rfl rfl (QOp_assign _ _ rfl rfl) ?_
                    refine AOps_nil ?_
                    refine ACode_seq (ACode_region ?_)
                    refine AOps_q 14 _ rfl rfl rfl (QOp_assign _ _ rfl rfl) ?_
                    refine AOps_nil ?_
                    refine ACode_block ?_
                    refine ACode_loopW (fun k3 E H => ∃ (x21 : Int) (x22 : List Int) (x23 : List Int), E = [(2, .d (.pv (colD p0) 0)), (7, .vec 0 0), (8, .vec 1 0), (10, iV x10), (11, .vec 2 0), (12, iV x16), (13, iV (x18.getD x16.toNat 0)), (14, iV x21)] ∧ H = [.vec 0 (intsD r3), .vec 0 (intsD x22), .vec 0 (intsD x23)] ∧ spec_SidesOf_l3 p0 r3 x16 x18 k3 x21 x22 x23 = some os37) k _ _ (Weak_keep 0 hm [2, 7, 8, 10, 11, 12, 13, 14] [0, 1, 2] _ _ rfl rfl rfl) ⟨_, _, _, rfl, rfl, h⟩ ?_
                    clear h
                    rintro k3 E H ⟨x21, x22, x23, rfl, rfl, h⟩
                    cases k3 with
                    | zero => cases (show (none : Option (Sum (List Int × List Int) (Sum (List Int) (Sum (List Int) (List Int × Int))))) = some _ from h)
                    | succ k3 =>
                      rw [spec_SidesOf_l3] at h
                      refine ACode_seq ?_
                      refine ACode_seq (ACode_region ?_)
                      refine AOps_q 62 _ rfl rfl rfl (QOp_move _ _ rfl rfl) ?_
                      refine AOps_q 63 _ rfl rfl rfl (QOp_fieldAddr_pv _ _ _ _ _ 0 _ _ rfl Try.underlying24 rfl _ Try.sizeOf2 rfl rfl) ?_
                      refine AOps_q 64 _ rfl rfl rfl (QOp_load_pv _ _ _ _ _ rfl Try.isAgg2 rfl rfl) ?_
                      refine AOps_q 65 _ rfl rfl rfl (QOp_lss _ _ _ _ _ _ _ rfl rfl rfl) ?_
                      refine AOps_nil ?_
                      refine ACode_cond _ rfl (fun hb24 => ?_) (fun hb24 => ?_)
                      · have h := iteT hb24 h
                        refine ACode_skip ?_
                        obtain ⟨os36, hss36, hks36⟩ := bindO h
                        clear h
                        refine ACode_seqJ (fun E' H' => ∃ s36 : List Int × List Int, os36 = .inl s36 ∧ Weak 104 G E' H' [(2, .d (.pv (colD p0) 0)), (7, .vec 0 0), (8, .vec 1 0), (10, iV x10), (11, .vec 2 0), (12, iV x16), (13, iV (x18.getD x16.toNat 0)), (14, iV x21)] [.vec 0 (intsD r3), .vec 0 (intsD s36.1), .vec 0 (intsD s36.2)]) ?_ ?_
                        · have h := hss36
                          clear hss36
                          refine ACode_block ?_
                          refine ACode_seq ?_
                          refine ACode_seq (ACode_region ?_)
                          refine AOps_q 68 _ rfl rfl rfl (QOp_move _ _ rfl rfl) ?_
                          refine AOps_q 69 _ rfl rfl rfl (QOp_move _ _ rfl rfl) ?_
                          obtain ⟨hc25, h⟩ := guardO h
                          refine AOps_q 70 _ rfl rfl rfl (QOp_indexAddr_vec _ _ _ _ _ _ _ _ _ rfl Try.underlying38 Try.sizeOf2 hc25.1 (by rw [intsD_length]; exact hc25.2) rfl rfl rfl) ?_
                          refine AOps_q 71 _ rfl rfl rfl (QOp_load_eptr _ _ _ _ _ _ _ rfl Try.isAgg2 rfl rfl (intsD_get _ _ 0 (by omega))) ?_
                          refine AOps_q 72 _ rfl rfl rfl (QOp_move _ _ rfl rfl) ?_
                          refine AOps_q 73 _ rfl rfl rfl (QOp_conv _ _ _ _ _ _ rfl rfl Try.underlying76 rfl) ?_
                          obtain ⟨hc26, h⟩ := guardO h
                          refine AOps_q 74 _ rfl rfl rfl (QOp_shr _ _ _ _ _ _ _ _ hc26 rfl rfl rfl) ?_
                          refine AOps_q 75 _ rfl rfl rfl (QOp_and _ _ _ _ _ _ _ rfl rfl rfl) ?_
                          refine AOps_q 76 _ rfl rfl rfl (QOp_eql _ _ _ _ _ _ _ rfl rfl rfl) ?_
                          refine AOps_nil ?_
                          refine ACode_cond _ rfl (fun hb27 => ?_) (fun hb27 => ?_)
                          · have h := iteT hb27 h
                            refine ACode_exit ?_
                            cases h
                            exact ⟨_, rfl, Weak_keep 0 hm [2, 7, 8, 10, 11, 12, 13, 14] [0, 1, 2] _ _ rfl rfl rfl⟩
                          · have h := iteF hb27 h
                            refine ACode_skip ?_
                            refine ACode_seq ?_
                            refine ACode_seq (ACode_quiet mixed (by kernel_rfl) ?_)
                            refine AQ_q 77 _ rfl rfl rfl (QOp_move _ _ rfl rfl) ?_
                            refine AQ_q 78 _ rfl rfl rfl (QOp_move _ _ rfl rfl) ?_
                            obtain ⟨hc28, h⟩ := guardO h
                            refine AQ_q 79 _ rfl rfl rfl (QOp_indexAddr_vec _ _ _ _ _ _ _ _ _ rfl Try.underlying38 Try.sizeOf2 hc28.1 (by rw [intsD_length]; exact hc28.2) rfl rfl rfl) ?_
                            refine AQ_q 80 _ rfl rfl rfl (QOp_load_eptr _ _ _ _ _ _ _ rfl Try.isAgg2 rfl rfl (intsD_get _ _ 0 (by omega))) ?_
                            refine AQ_q 81 _ rfl rfl rfl (QOp_move _ _ rfl rfl) ?_
                            refine AQ_q 82 _ rfl rfl rfl (QOp_move _ _ rfl rfl) ?_
                            obtain ⟨hc29, h⟩ := guardO h
                            refine AQ_q 83 _ rfl rfl rfl (QOp_indexAddr_vec _ _ _ _ _ _ _ _ _ rfl Try.underlying38 Try.sizeOf2 hc29.1 (by rw [intsD_length]; exact hc29.2) rfl rfl rfl) ?_
                            refine AQ_q 84 _ rfl rfl rfl (QOp_load_eptr _ _ _ _ _ _ _ rfl Try.isAgg2 rfl rfl (intsD_get _ _ 0 (by omega))) ?_
                            refine AQ_q 85 _ rfl rfl rfl (QOp_eql _ _ _ _ _ _ _ rfl rfl rfl) ?_
                            refine AQ_nil ?_
                            refine ACode_cond _ rfl (fun hb30 => ?_) (fun hb30 => ?_)
                            · have h := iteT hb30 h
                              refine ACode_seq (ACode_region ?_)
                              refine AOps_q 4 _ rfl rfl rfl (QOp_assign _ _ rfl rfl) ?_
                              refine AOps_q 5 _ rfl rfl rfl (QOp_assign _ _ rfl rfl) ?_
                              refine AOps_nil ?_
                              refine ACode_ret ?_
                              obtain ⟨rr, hz42, h2⟩ := bindO h
                              obtain rfl := Option.some.inj h2
                              obtain rfl := Option.some.inj (show some rr = some _ from hks36)
                              have h := hz42
                              obtain ⟨rr, hz41, h2⟩ := bindO h
                              obtain rfl := Option.some.inj h2
                              obtain rfl := Option.some.inj (show some rr = some _ from hks37)
                              have h := hz41
                              obtain ⟨rr, hz40, h2⟩ := bindO h
                              obtain rfl := Option.some.inj h2
                              obtain rfl := Option.some.inj (show some rr = some _ from hks38)
                              have h := hz40
                              cases h
                              have h := hks39
                              cases h
                              exact ⟨_, _, fun r a w h => ⟨r, h⟩, _, _, [], _, (.cons (ResV_tmp _ _ rfl) (.cons (ResV_tmp _ _ rfl) .nil)), rfl, rfl, rfl, rfl, rfl⟩
                            · have h := iteF hb30 h
                              refine ACode_skip ?_
                              refine ACode_seq (ACode_region ?_)
                              refine AOps_q 86 _ rfl rfl rfl (QOp_move _ _ rfl rfl) ?_
                              refine AOps_q 87 _ rfl rfl rfl (QOp_move _ _ rfl rfl) ?_
                              obtain ⟨hc31, h⟩ := guardO h
                              refine AOps_q 88 _ rfl rfl rfl (QOp_indexAddr_vec _ _ _ _ _ _ _ _ _ rfl Try.underlying38 Try.sizeOf2 hc31.1 (by rw [intsD_length]; exact hc31.2) rfl rfl rfl) ?_
                              refine AOps_q 89 _ rfl rfl rfl (QOp_load_eptr _ _ _ _ _ _ _ rfl Try.isAgg2 rfl rfl (intsD_get _ _ 0 (by omega))) ?_
                              refine AOps_q 90 _ rfl rfl rfl (QOp_lss _ _ _ _ _ _ _ rfl rfl rfl) ?_
                              refine AOps_nil ?_
                              refine ACode_cond _ rfl (fun hb32 => ?_) (fun hb32 => ?_)
                              · have h := iteT hb32 h
                                refine ACode_seq (ACode_region ?_)
                                refine AOps_q 91 _ rfl rfl rfl (QOp_move _ _ rfl rfl) ?_
                                refine AOps_q 92 _ rfl rfl rfl (QOp_move _ _ rfl rfl) ?_
                                refine AOps_q 93 _ rfl rfl rfl (QOp_move _ _ rfl rfl) ?_
                                refine AOps_q 94 _ rfl rfl rfl (QOp_move _ _ rfl rfl) ?_
                                obtain ⟨hc33, h⟩ := guardO h
                                refine AOps_q 95 _ rfl rfl rfl (QOp_indexAddr_vec _ _ _ _ _ _ _ _ _ rfl Try.underlying38 Try.sizeOf2 hc33.1 (by rw [intsD_length]; exact hc33.2) rfl rfl rfl) ?_
                                refine AOps_q 96 _ rfl rfl rfl (QOp_load_eptr _ _ _ _ _ _ _ rfl Try.isAgg2 rfl rfl (intsD_get _ _ 0 (by omega))) ?_
                                refine AOps_q 97 _ rfl rfl rfl (QOp_sub _ _ _ _ _ _ _ rfl rfl rfl) ?_
                                obtain ⟨hc34, h⟩ := guardO h
                                refine AOps_q 98 _ rfl rfl rfl (QOp_indexAddr_vec _ _ _ _ _ _ _ _ _ rfl Try.underlying38 Try.sizeOf2 hc34.1 (by rw [intsD_length]; exact hc34.2) rfl rfl rfl) ?_
                                refine AOps_store_eptr _ _ _ _ _ _ (intsD x22) _ rfl rfl rfl rfl rfl rfl rfl Try.sizeOf2 (by rw [intsD_length]; omega) ?_
                                rw [intsD_set]
                                refine AOps_nil ?_
                                refine (ACode_region ?_)
                                refine AOps_q 99 _ rfl rfl rfl (QOp_move _ _ rfl rfl) ?_
                                refine AOps_q 100 _ rfl rfl rfl (QOp_move _ _ rfl rfl) ?_
                                refine AOps_buildSlice 101 _ _ _ [_] (intsD ([x21])) _ rfl rfl rfl rfl rfl (by decide) Try.underlying38 Try.sizeOf2 (zero_of Try.typeInfo2 rfl) rfl rfl (intsD_one _) ?_
                                obtain ⟨hc35, h⟩ := guardO h
                                refine AOps_append 102 _ _ _ _ _ _ _ _ _ _ _ _ rfl rfl rfl rfl rfl rfl rfl Try.underlying38 Try.type2 rfl rfl rfl (by decide) rfl rfl rfl rfl (intsD_one _) (by rw [intsD_length, intsD_length]; exact hc35) ?_
                                rw [intsD_app]
                                refine AOps_q 11 _ rfl rfl rfl (QOp_assign _ _ rfl rfl) ?_
                                refine AOps_nil ?_
                                cases h
                                exact ⟨_, rfl, Weak_trans (Weak_keep 0 hm [2, 7, 8, 10, 11, 12, 13, 14] [0, 1, 2] _ _ rfl rfl rfl) (Weak_reset 0 hm hz [2, 7, 8, 10, 11, 12, 13, 14] _ _ rfl rfl)⟩
                              · have h := iteF hb32 h
                                refine ACode_skip ?_
                                cases h
                                exact ⟨_, rfl, Weak_keep 0 hm [2, 7, 8, 10, 11, 12, 13, 14] [0, 1, 2] _ _ rfl rfl rfl⟩
                        rintro E' H' ⟨s36, rfl, hw⟩
                        refine ACode_weak hw ?_
                        have h := hks36
                        refine (ACode_region ?_)
                        refine AOps_q 66 _ rfl rfl rfl (QOp_move _ _ rfl rfl) ?_
                        refine AOps_q 67 _ rfl rfl rfl (QOp_add _ _ _ _ _ _ _ rfl rfl rfl) ?_
                        refine AOps_q 14 _ rfl rfl rfl (QOp_assign _ _ rfl rfl) ?_
                        refine AOps_nil ?_
                        exact ⟨k3, _, _, Nat.lt_succ_self _, Weak_keep 0 hm [2, 7, 8, 10, 11, 12, 13, 14] [0, 1, 2] _ _ rfl rfl rfl, _, _, _, rfl, rfl, h⟩
                      · have h := iteF hb24 h
                        refine ACode_exit ?_
                        cases h
                        exact ⟨_, rfl, Weak_keep 0 hm [2, 7, 8, 10, 11, 12] [0, 1, 2] _ _ rfl rfl rfl⟩
                  rintro E' H' ⟨s37, rfl, hw⟩
                  refine ACode_weak hw ?_
                  have h := hks37
                  refine (ACode_region ?_)
                  refine AOps_q 56 _ rfl rfl rfl (QOp_move _ _ rfl rfl) ?_
                  refine AOps_q 57 _ rfl rfl rfl (QOp_add _ _ _ _ _ _ _ rfl rfl rfl) ?_
                  refine AOps_q 12 _ rfl rfl rfl (QOp_assign _ _ rfl rfl) ?_
                  refine AOps_nil ?_
                  exact ⟨k2, _, _, Nat.lt_succ_self _, Weak_keep 0 hm [2, 7, 8, 10, 11, 12] [0, 1, 2] _ _ rfl rfl rfl, _, _, _, rfl, rfl, h⟩
                · have h := iteF hb19 h
                  refine ACode_exit ?_
                  cases h
                  exact ⟨_, rfl, Weak_keep 0 hm [2, 7, 8, 10] [0, 1] _ _ rfl rfl rfl⟩
          rintro E' H' ⟨s38, rfl, hw⟩
          refine ACode_weak hw ?_
          have h := hks38
          refine (ACode_region ?_)
          refine AOps_q 40 _ rfl rfl rfl (QOp_move _ _ rfl rfl) ?_
          refine AOps_q 41 _ rfl rfl rfl (QOp_add _ _ _ _ _ _ _ rfl rfl rfl) ?_
          refine AOps_q 10 _ rfl rfl rfl (QOp_assign _ _ rfl rfl) ?_
          refine AOps_nil ?_
          exact ⟨k1, _, _, Nat.lt_succ_self _, Weak_keep 0 hm [2, 7, 8, 10] [0, 1] _ _ rfl rfl rfl, _, _, rfl, rfl, h⟩
        · have h := iteF hb12 h
          refine ACode_exit ?_
          cases h
          exact ⟨_, rfl, Weak_keep 0 hm [8] [1] _ _ rfl rfl rfl⟩
    rintro E' H' ⟨s39, rfl, hw⟩
    refine ACode_weak hw ?_
    have h := hks39
    refine ACode_seq (ACode_region ?_)
    refine AOps_q 103 _ rfl rfl rfl (QOp_move _ _ rfl rfl) ?_
    refine AOps_q 4 _ rfl rfl rfl (QOp_assign _ _ rfl rfl) ?_
    refine AOps_q 5 _ rfl rfl rfl (QOp_assign _ _ rfl rfl) ?_
    refine AOps_nil ?_
    refine ACode_ret ?_
    cases h
    exact ⟨_, _, fun r a w h => ⟨r, h⟩, _, _, [], _, (.cons (ResV_tmp _ _ rfl) (.cons (ResV_tmp _ _ rfl) .nil)), rfl, rfl, rfl, rfl, rfl⟩

end Go.Proofs.Ytjkanhdklfgghaa
