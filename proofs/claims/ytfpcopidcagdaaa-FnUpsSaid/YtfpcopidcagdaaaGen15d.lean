/- Plain functions of the program and that the program computes them: printed by the own tool gen.py. No conditions. -/
import Derived.Test.YtfpcopidcagdaaaGen15c
set_option linter.unusedVariables false
set_option linter.unusedSimpArgs false
namespace Go.Proofs.Ytfpcopidcagdaaa
open Go Go.RowKit Ab

-- loop.example/g01362/spec.l10Closed
def spec_l10Closed_l2 (p0 : Col) (p1 : Int) (x1 : Int) (x3 : Int) : Nat → Int → Option (Sum (Unit) (Sum (Unit) (Sum (Unit) (Bool))))
  | 0, _ => none
  | k2 + 1, x5 => (if decide (x5 < x3) then (((spec_l01At p0 x5 x3).bind fun r7 => (if decide (r7 = p1) then (spec_l01At p0 x3 x1).bind fun r9 => (if decide (r9 = p1) then (spec_l01At p0 x5 x1).bind fun r11 => some (!decide (r11 = p1)) else some false) else some false) : Option (Bool)).bind fun s12 => (if s12 then (((some (.inr false)).bind fun rr => some (.inr rr)).bind fun rr => some (.inr rr)).bind fun rr => some (.inr rr) else some (.inl ())) : Option (Sum (Unit) (Sum (Unit) (Sum (Unit) (Sum (Unit) (Bool)))))).bind fun os14 => (match os14 with | .inl s14 => spec_l10Closed_l2 p0 p1 x1 x3 k2 (w64 (x5 + 1)) | .inr rr => some rr) else some (.inl ()))
def spec_l10Closed_l1 (k : Nat) (p0 : Col) (p1 : Int) (x1 : Int) : Nat → Int → Option (Sum (Unit) (Sum (Unit) (Bool)))
  | 0, _ => none
  | k1 + 1, x3 => (if decide (x3 < x1) then (spec_l10Closed_l2 p0 p1 x1 x3 k 0 : Option (Sum (Unit) (Sum (Unit) (Sum (Unit) (Bool))))).bind fun os15 => (match os15 with | .inl s15 => spec_l10Closed_l1 k p0 p1 x1 k1 (w64 (x3 + 1)) | .inr rr => some rr) else some (.inl ()))
def spec_l10Closed_l0 (k : Nat) (p0 : Col) (p1 : Int) : Nat → Int → Option (Sum (Unit) (Bool))
  | 0, _ => none
  | k0 + 1, x1 => (if decide (x1 < p0.p) then (spec_l10Closed_l1 k p0 p1 x1 k 1 : Option (Sum (Unit) (Sum (Unit) (Bool)))).bind fun os16 => (match os16 with | .inl s16 => spec_l10Closed_l0 k p0 p1 k0 (w64 (x1 + 1)) | .inr rr => some rr) else some (.inl ()))
def spec_l10Closed (k : Nat) (p0 : Col) (p1 : Int) : Option (Bool) :=
  (spec_l10Closed_l0 k p0 p1 k 2 : Option (Sum (Unit) (Bool))).bind fun os17 => (match os17 with | .inl s17 => some true | .inr rr => some rr)
set_option maxRecDepth 100000 in
theorem spec_l10Closed_ac (k : Nat) (p0 : Col) (p1 : Int) (r : Bool) (h : spec_l10Closed k p0 p1 = some r) : AC Try.prog 56 [.d (.agg (colD p0)), iV p1] [] (fun res H' => res = [bV r] ∧ H' = []) := by
  refine AC_of_body true Try.func56 rfl Try.ntmps56 (rvs := [.tmp 4]) rfl rfl (fun G hG => ?_)
  have hm : G.H.length = 0 := by rw [hG]; rfl
  have hz : zeroG G.H = true := by rw [hG]; rfl
  unfold spec_l10Closed at h
  refine ACode_seq (ACode_region ?_)
  refine AOps_boxI 2 _ _ (.agg (colD p0)) (colD p0) rfl (colD_one _) rfl rfl rfl rfl rfl ?_
  refine AOps_q 4 _ rfl rfl rfl (QOp_assign _ _ rfl rfl) ?_
  refine AOps_nil ?_
  obtain ⟨os17, hss17, hks17⟩ := bindO h
  clear h
  refine ACode_seqJ (fun E' H' => ∃ s17 : Unit, os17 = .inl s17 ∧ Weak 46 G E' H' [] []) ?_ ?_
  · have h := hss17
    clear hss17
    refine ACode_seq (ACode_region ?_)
    refine AOps_q 5 _ rfl rfl rfl (QOp_assign _ _ rfl rfl) ?_
    refine AOps_nil ?_
    refine ACode_block ?_
    refine ACode_loopW (fun k0 E H => ∃ (x1 : Int), E = [(1, iV p1), (2, .d (.pv (colD p0) 0)), (5, iV x1)] ∧ H = [] ∧ spec_l10Closed_l0 k p0 p1 k0 x1 = some os17) k _ _ (Weak_keep 0 hm [1, 2, 5] [] _ _ rfl rfl rfl) ⟨_, rfl, rfl, h⟩ ?_
    clear h
    rintro k0 E H ⟨x1, rfl, rfl, h⟩
    cases k0 with
    | zero => cases (show (none : Option (Sum (Unit) (Bool))) = some _ from h)
    | succ k0 =>
      rw [spec_l10Closed_l0] at h
      refine ACode_seq ?_
      refine ACode_seq (ACode_region ?_)
      refine AOps_q 8 _ rfl rfl rfl (QOp_move _ _ rfl rfl) ?_
      refine AOps_q 9 _ rfl rfl rfl (QOp_fieldAddr_pv _ _ _ _ _ 0 _ _ rfl Try.underlying26 rfl _ Try.sizeOf2 rfl rfl) ?_
      refine AOps_q 10 _ rfl rfl rfl (QOp_load_pv _ _ _ _ _ rfl Try.isAgg2 rfl rfl) ?_
      refine AOps_q 11 _ rfl rfl rfl (QOp_lss _ _ _ _ _ _ _ rfl rfl rfl) ?_
      refine AOps_nil ?_
      refine ACode_cond _ rfl (fun hb2 => ?_) (fun hb2 => ?_)
      · have h := iteT hb2 h
        refine ACode_skip ?_
        obtain ⟨os16, hss16, hks16⟩ := bindO h
        clear h
        refine ACode_seqJ (fun E' H' => ∃ s16 : Unit, os16 = .inl s16 ∧ Weak 46 G E' H' [(1, iV p1), (2, .d (.pv (colD p0) 0)), (5, iV x1)] []) ?_ ?_
        · have h := hss16
          clear hss16
          refine ACode_block ?_
          refine ACode_seq (ACode_region ?_)
          refine AOps_q 6 _ rfl rfl rfl (QOp_assign _ _ rfl rfl) ?_
          refine AOps_nil ?_
          refine ACode_block ?_
          refine ACode_loopW (fun k1 E H => ∃ (x3 : Int), E = [(1, iV p1), (2, .d (.pv (colD p0) 0)), (5, iV x1), (6, iV x3)] ∧ H = [] ∧ spec_l10Closed_l1 k p0 p1 x1 k1 x3 = some os16) k _ _ (Weak_keep 0 hm [1, 2, 5, 6] [] _ _ rfl rfl rfl) ⟨_, rfl, rfl, h⟩ ?_
          clear h
          rintro k1 E H ⟨x3, rfl, rfl, h⟩
          cases k1 with
          | zero => cases (show (none : Option (Sum (Unit) (Sum (Unit) (Bool)))) = some _ from h)
          | succ k1 =>
            rw [spec_l10Closed_l1] at h
            refine ACode_seq ?_
            refine ACode_seq (ACode_region ?_)
            refine AOps_q 14 _ rfl rfl rfl (QOp_move _ _ rfl rfl) ?_
            refine AOps_q 15 _ rfl rfl rfl (QOp_move _ _ rfl rfl) ?_
            refine AOps_q 16 _ rfl rfl rfl (QOp_lss _ _ _ _ _ _ _ rfl rfl rfl) ?_
            refine AOps_nil ?_
            refine ACode_cond _ rfl (fun hb4 => ?_) (fun hb4 => ?_)
            · have h := iteT hb4 h
              refine ACode_skip ?_
              obtain ⟨os15, hss15, hks15⟩ := bindO h
              clear h
              refine ACode_seqJ (fun E' H' => ∃ s15 : Unit, os15 = .inl s15 ∧ Weak 46 G E' H' [(1, iV p1), (2, .d (.pv (colD p0) 0)), (5, iV x1), (6, iV x3)] []) ?_ ?_
              · have h := hss15
                clear hss15
                refine ACode_block ?_
                refine ACode_seq (ACode_region ?_)
                refine AOps_q 7 _ rfl rfl rfl (QOp_assign _ _ rfl rfl) ?_
                refine AOps_nil ?_
                refine ACode_block ?_
                refine ACode_loopW (fun k2 E H => ∃ (x5 : Int), E = [(1, iV p1), (2, .d (.pv (colD p0) 0)), (5, iV x1), (6, iV x3), (7, iV x5)] ∧ H = [] ∧ spec_l10Closed_l2 p0 p1 x1 x3 k2 x5 = some os15) k _ _ (Weak_keep 0 hm [1, 2, 5, 6, 7] [] _ _ rfl rfl rfl) ⟨_, rfl, rfl, h⟩ ?_
                clear h
                rintro k2 E H ⟨x5, rfl, rfl, h⟩
                cases k2 with
                | zero => cases (show (none : Option (Sum (Unit) (Sum (Unit) (Sum (Unit) (Bool))))) = some _ from h)
                | succ k2 =>
                  rw [spec_l10Closed_l2] at h
                  refine ACode_seq ?_
                  refine ACode_seq (ACode_region ?_)
                  refine AOps_q 19 _ rfl rfl rfl (QOp_move _ _ rfl rfl) ?_
                  refine AOps_q 20 _ rfl rfl rfl (QOp_move _ _ rfl rfl) ?_
                  refine AOps_q 21 _ rfl rfl rfl (QOp_lss _ _ _ _ _ _ _ rfl rfl rfl) ?_
                  refine AOps_nil ?_
                  refine ACode_cond _ rfl (fun hb6 => ?_) (fun hb6 => ?_)
                  · have h := iteT hb6 h
                    refine ACode_skip ?_
                    obtain ⟨os14, hss14, hks14⟩ := bindO h
                    clear h
                    refine ACode_seqJ (fun E' H' => ∃ s14 : Unit, os14 = .inl s14 ∧ Weak 46 G E' H' [(1, iV p1), (2, .d (.pv (colD p0) 0)), (5, iV x1), (6, iV x3), (7, iV x5)] []) ?_ ?_
                    · have h := hss14
                      clear hss14
                      refine ACode_block ?_
                      obtain ⟨s12, hss12, hks12⟩ := bindO h
                      clear h
                      refine ACode_seqJ (fun E' H' => Weak 46 G E' H' [(1, iV p1), (2, .d (.pv (colD p0) 0)), (5, iV x1), (6, iV x3), (7, iV x5), (45, bV s12)] []) ?_ ?_
                      · have h := hss12
                        clear hss12
                        refine (ACode_region ?_)
                        refine AOps_q 24 _ rfl rfl rfl (QOp_loadN_pv _ _ _ _ _ _ rfl Try.isAgg26 Try.sizeOf26 rfl (colD_all _) (colD_length _)) ?_
                        refine AOps_q 25 _ rfl rfl rfl (QOp_move _ _ rfl rfl) ?_
                        refine AOps_q 26 _ rfl rfl rfl (QOp_move _ _ rfl rfl) ?_
                        obtain ⟨r7, hr7, h⟩ := bindO h
                        refine AOps_call [] 27 _ _ _ _ _ _ _ _ _ _ rfl rfl rfl rfl rfl rfl rfl Try.call54 rfl (nodupB_sound _ rfl) rfl rfl rfl (spec_l01At_ac p0 x5 x3 _ hr7) ?_
                        rintro _ _ ⟨rfl, rfl⟩
                        refine ⟨(fun _ h => nomatch h), (allc (trivial) (fun _ h => nomatch h)), AOps_as 27 (v' := iV r7) (H' := []) rfl rfl ?_⟩
                        refine AOps_q 28 _ rfl rfl rfl (QOp_move _ _ rfl rfl) ?_
                        refine AOps_q 29 _ rfl rfl rfl (QOp_eql _ _ _ _ _ _ _ rfl rfl rfl) ?_
                        refine AOps_q 30 _ rfl rfl rfl (QOp_move _ _ rfl rfl) ?_
                        refine AOps_case 30 _ rfl (fun hb8 => ?_) (fun hb8 => ?_)
                        · have h := iteT hb8 h
                          refine AOps_q 31 _ rfl rfl rfl (QOp_loadN_pv _ _ _ _ _ _ rfl Try.isAgg26 Try.sizeOf26 rfl (colD_all _) (colD_length _)) ?_
                          refine AOps_q 32 _ rfl rfl rfl (QOp_move _ _ rfl rfl) ?_
                          refine AOps_q 33 _ rfl rfl rfl (QOp_move _ _ rfl rfl) ?_
                          obtain ⟨r9, hr9, h⟩ := bindO h
                          refine AOps_call [] 34 _ _ _ _ _ _ _ _ _ _ rfl rfl rfl rfl rfl rfl rfl Try.call54 rfl (nodupB_sound _ rfl) rfl rfl rfl (spec_l01At_ac p0 x3 x1 _ hr9) ?_
                          rintro _ _ ⟨rfl, rfl⟩
                          refine ⟨(fun _ h => nomatch h), (allc (trivial) (fun _ h => nomatch h)), AOps_as 34 (v' := iV r9) (H' := []) rfl rfl ?_⟩
                          refine AOps_q 35 _ rfl rfl rfl (QOp_move _ _ rfl rfl) ?_
                          refine AOps_q 36 _ rfl rfl rfl (QOp_eql _ _ _ _ _ _ _ rfl rfl rfl) ?_
                          refine AOps_q 37 _ rfl rfl rfl (QOp_pick_t _ _ _ _ rfl rfl rfl) ?_
                          refine AOps_q 38 _ rfl rfl rfl (QOp_move _ _ rfl rfl) ?_
                          refine AOps_case 38 _ rfl (fun hb10 => ?_) (fun hb10 => ?_)
                          · have h := iteT hb10 h
                            refine AOps_q 39 _ rfl rfl rfl (QOp_loadN_pv _ _ _ _ _ _ rfl Try.isAgg26 Try.sizeOf26 rfl (colD_all _) (colD_length _)) ?_
                            refine AOps_q 40 _ rfl rfl rfl (QOp_move _ _ rfl rfl) ?_
                            refine AOps_q 41 _ rfl rfl rfl (QOp_move _ _ rfl rfl) ?_
                            obtain ⟨r11, hr11, h⟩ := bindO h
                            refine AOps_call [] 42 _ _ _ _ _ _ _ _ _ _ rfl rfl rfl rfl rfl rfl rfl Try.call54 rfl (nodupB_sound _ rfl) rfl rfl rfl (spec_l01At_ac p0 x5 x1 _ hr11) ?_
                            rintro _ _ ⟨rfl, rfl⟩
                            refine ⟨(fun _ h => nomatch h), (allc (trivial) (fun _ h => nomatch h)), AOps_as 42 (v' := iV r11) (H' := []) rfl rfl ?_⟩
                            refine AOps_q 43 _ rfl rfl rfl (QOp_move _ _ rfl rfl) ?_
                            refine AOps_q 44 _ rfl rfl rfl (QOp_neq _ _ _ _ _ _ _ rfl rfl rfl) ?_
                            refine AOps_q 45 _ rfl rfl rfl (QOp_pick_t _ _ _ _ rfl rfl rfl) ?_
                            refine AOps_nil ?_
                            cases h
                            exact Weak_keep 0 hm [1, 2, 5, 6, 7, 45] [] _ _ rfl rfl rfl
                          · have h := iteF hb10 h
                            refine AOps_skip 39 rfl rfl rfl ?_
                            refine AOps_skip 40 rfl rfl rfl ?_
                            refine AOps_skip 41 rfl rfl rfl ?_
                            refine AOps_skip 42 rfl rfl rfl ?_
                            refine AOps_skip 43 rfl rfl rfl ?_
                            refine AOps_skip 44 rfl rfl rfl ?_
                            refine AOps_q 45 _ rfl rfl rfl (QOp_pick_f _ _ _ _ rfl rfl rfl) ?_
                            refine AOps_nil ?_
                            cases h
                            exact Weak_keep 0 hm [1, 2, 5, 6, 7, 45] [] _ _ rfl rfl rfl
                        · have h := iteF hb8 h
                          refine AOps_skip 31 rfl rfl rfl ?_
                          refine AOps_skip 32 rfl rfl rfl ?_
                          refine AOps_skip 33 rfl rfl rfl ?_
                          refine AOps_skip 34 rfl rfl rfl ?_
                          refine AOps_skip 35 rfl rfl rfl ?_
                          refine AOps_skip 36 rfl rfl rfl ?_
                          refine AOps_q 37 _ rfl rfl rfl (QOp_pick_f _ _ _ _ rfl rfl rfl) ?_
                          refine AOps_q 38 _ rfl rfl rfl (QOp_move _ _ rfl rfl) ?_
                          refine AOps_skip 39 rfl rfl rfl ?_
                          refine AOps_skip 40 rfl rfl rfl ?_
                          refine AOps_skip 41 rfl rfl rfl ?_
                          refine AOps_skip 42 rfl rfl rfl ?_
                          refine AOps_skip 43 rfl rfl rfl ?_
                          refine AOps_skip 44 rfl rfl rfl ?_
                          refine AOps_q 45 _ rfl rfl rfl (QOp_pick_f _ _ _ _ rfl rfl rfl) ?_
                          refine AOps_nil ?_
                          cases h
                          exact Weak_keep 0 hm [1, 2, 5, 6, 7, 45] [] _ _ rfl rfl rfl
                      intro E' H' hw
                      refine ACode_weak hw ?_
                      have h := hks12
                      refine ACode_cond _ rfl (fun hb13 => ?_) (fun hb13 => ?_)
                      · have h := iteT hb13 h
                        refine ACode_seq (ACode_region ?_)
                        refine AOps_q 4 _ rfl rfl rfl (QOp_assign _ _ rfl rfl) ?_
                        refine AOps_nil ?_
                        refine ACode_ret ?_
                        obtain ⟨rr, hz20, h2⟩ := bindO h
                        obtain rfl := Option.some.inj h2
                        obtain rfl := Option.some.inj (show some rr = some _ from hks14)
                        have h := hz20
                        obtain ⟨rr, hz19, h2⟩ := bindO h
                        obtain rfl := Option.some.inj h2
                        obtain rfl := Option.some.inj (show some rr = some _ from hks15)
                        have h := hz19
                        obtain ⟨rr, hz18, h2⟩ := bindO h
                        obtain rfl := Option.some.inj h2
                        obtain rfl := Option.some.inj (show some rr = some _ from hks16)
                        have h := hz18
                        cases h
                        have h := hks17
                        cases h
                        exact ⟨_, _, fun r a w h => ⟨r, h⟩, _, _, [], _, (.cons (ResV_tmp _ _ rfl) .nil), rfl, rfl, rfl, rfl, rfl⟩
                      · have h := iteF hb13 h
                        refine ACode_skip ?_
                        cases h
                        exact ⟨_, rfl, Weak_keep 0 hm [1, 2, 5, 6, 7] [] _ _ rfl rfl rfl⟩
                    rintro E' H' ⟨s14, rfl, hw⟩
                    refine ACode_weak hw ?_
                    have h := hks14
                    refine (ACode_region ?_)
                    refine AOps_q 22 _ rfl rfl rfl (QOp_move _ _ rfl rfl) ?_
                    refine AOps_q 23 _ rfl rfl rfl (QOp_add _ _ _ _ _ _ _ rfl rfl rfl) ?_
                    refine AOps_q 7 _ rfl rfl rfl (QOp_assign _ _ rfl rfl) ?_
                    refine AOps_nil ?_
                    exact ⟨k2, _, _, Nat.lt_succ_self _, Weak_keep 0 hm [1, 2, 5, 6, 7] [] _ _ rfl rfl rfl, _, rfl, rfl, h⟩
                  · have h := iteF hb6 h
                    refine ACode_exit ?_
                    cases h
                    exact ⟨_, rfl, Weak_keep 0 hm [1, 2, 5, 6] [] _ _ rfl rfl rfl⟩
              rintro E' H' ⟨s15, rfl, hw⟩
              refine ACode_weak hw ?_
              have h := hks15
              refine (ACode_region ?_)
              refine AOps_q 17 _ rfl rfl rfl (QOp_move _ _ rfl rfl) ?_
              refine AOps_q 18 _ rfl rfl rfl (QOp_add _ _ _ _ _ _ _ rfl rfl rfl) ?_
              refine AOps_q 6 _ rfl rfl rfl (QOp_assign _ _ rfl rfl) ?_
              refine AOps_nil ?_
              exact ⟨k1, _, _, Nat.lt_succ_self _, Weak_keep 0 hm [1, 2, 5, 6] [] _ _ rfl rfl rfl, _, rfl, rfl, h⟩
            · have h := iteF hb4 h
              refine ACode_exit ?_
              cases h
              exact ⟨_, rfl, Weak_keep 0 hm [1, 2, 5] [] _ _ rfl rfl rfl⟩
        rintro E' H' ⟨s16, rfl, hw⟩
        refine ACode_weak hw ?_
        have h := hks16
        refine (ACode_region ?_)
        refine AOps_q 12 _ rfl rfl rfl (QOp_move _ _ rfl rfl) ?_
        refine AOps_q 13 _ rfl rfl rfl (QOp_add _ _ _ _ _ _ _ rfl rfl rfl) ?_
        refine AOps_q 5 _ rfl rfl rfl (QOp_assign _ _ rfl rfl) ?_
        refine AOps_nil ?_
        exact ⟨k0, _, _, Nat.lt_succ_self _, Weak_keep 0 hm [1, 2, 5] [] _ _ rfl rfl rfl, _, rfl, rfl, h⟩
      · have h := iteF hb2 h
        refine ACode_exit ?_
        cases h
        exact ⟨_, rfl, Weak_keep 0 hm [] [] _ _ rfl rfl rfl⟩
  rintro E' H' ⟨s17, rfl, hw⟩
  refine ACode_weak hw ?_
  have h := hks17
  refine ACode_seq (ACode_region ?_)
  refine AOps_q 4 _ rfl rfl rfl (QOp_assign _ _ rfl rfl) ?_
  refine AOps_nil ?_
  refine ACode_ret ?_
  cases h
  exact ⟨_, _, fun r a w h => ⟨r, h⟩, _, _, [], _, (.cons (ResV_tmp _ _ rfl) .nil), rfl, rfl, rfl, rfl, rfl⟩

-- loop.example/g01362/spec.IsClosedColour
def spec_IsClosedColour (k : Nat) (p0 : Col) (p1 : Int) : Option (Bool × Int) :=
  (spec_l01Given k p0 p1 ([])).bind fun r1 => (if !decide (r1 = 0) then some (false, r1) else (spec_l10Closed k p0 p1).bind fun r3 => some (r3, 0))
set_option maxRecDepth 100000 in
theorem spec_IsClosedColour_ac (k : Nat) (p0 : Col) (p1 : Int) (r : Bool × Int) (h : spec_IsClosedColour k p0 p1 = some r) : AC Try.prog 14 [.d (.agg (colD p0)), iV p1] [] (fun res H' => res = [bV r.1, iV r.2] ∧ H' = []) := by
  refine AC_of_body true Try.func14 rfl Try.ntmps14 (rvs := [.tmp 4, .tmp 5]) rfl rfl (fun G hG => ?_)
  have hm : G.H.length = 0 := by rw [hG]; rfl
  have hz : zeroG G.H = true := by rw [hG]; rfl
  unfold spec_IsClosedColour at h
  refine ACode_seq (ACode_region ?_)
  refine AOps_boxI 2 _ _ (.agg (colD p0)) (colD p0) rfl (colD_one _) rfl rfl rfl rfl rfl ?_
  refine AOps_q 4 _ rfl rfl rfl (QOp_assign _ _ rfl rfl) ?_
  refine AOps_q 5 _ rfl rfl rfl (QOp_assign _ _ rfl rfl) ?_
  refine AOps_nil ?_
  refine ACode_seq ?_
  refine ACode_seq (ACode_region ?_)
  refine AOps_q 7 _ rfl rfl rfl (QOp_loadN_pv _ _ _ _ _ _ rfl Try.isAgg26 Try.sizeOf26 rfl (colD_all _) (colD_length _)) ?_
  refine AOps_q 8 _ rfl rfl rfl (QOp_move _ _ rfl rfl) ?_
  obtain ⟨r1, hr1, h⟩ := bindO h
  refine AOps_call [] 9 _ _ _ _ _ _ _ _ _ _ rfl rfl rfl rfl rfl rfl rfl Try.call52 rfl (nodupB_sound _ rfl) rfl rfl rfl (spec_l01Given_ac k p0 p1 ([]) _ hr1) ?_
  rintro _ _ ⟨rfl, rfl⟩
  refine ⟨(fun _ h => nomatch h), (allc (trivial) (fun _ h => nomatch h)), AOps_as 9 (v' := iV r1) (H' := []) rfl rfl ?_⟩
  refine AOps_q 6 _ rfl rfl rfl (QOp_assign _ _ rfl rfl) ?_
  refine AOps_nil ?_
  refine ACode_seq (ACode_region ?_)
  refine AOps_q 10 _ rfl rfl rfl (QOp_move _ _ rfl rfl) ?_
  refine AOps_q 11 _ rfl rfl rfl (QOp_neq _ _ _ _ _ _ _ rfl rfl rfl) ?_
  refine AOps_nil ?_
  refine ACode_cond _ rfl (fun hb2 => ?_) (fun hb2 => ?_)
  · have h := iteT hb2 h
    refine ACode_seq (ACode_region ?_)
    refine AOps_q 12 _ rfl rfl rfl (QOp_move _ _ rfl rfl) ?_
    refine AOps_q 4 _ rfl rfl rfl (QOp_assign _ _ rfl rfl) ?_
    refine AOps_q 5 _ rfl rfl rfl (QOp_assign _ _ rfl rfl) ?_
    refine AOps_nil ?_
    refine ACode_ret ?_
    cases h
    exact ⟨_, _, fun r a w h => ⟨r, h⟩, _, _, [], _, (.cons (ResV_tmp _ _ rfl) (.cons (ResV_tmp _ _ rfl) .nil)), rfl, rfl, rfl, rfl, rfl⟩
  · have h := iteF hb2 h
    refine ACode_skip ?_
    refine ACode_seq (ACode_region ?_)
    refine AOps_q 13 _ rfl rfl rfl (QOp_loadN_pv _ _ _ _ _ _ rfl Try.isAgg26 Try.sizeOf26 rfl (colD_all _) (colD_length _)) ?_
    refine AOps_q 14 _ rfl rfl rfl (QOp_move _ _ rfl rfl) ?_
    obtain ⟨r3, hr3, h⟩ := bindO h
    refine AOps_call [] 15 _ _ _ _ _ _ _ _ _ _ rfl rfl rfl rfl rfl rfl rfl Try.call56 rfl (nodupB_sound _ rfl) rfl rfl rfl (spec_l10Closed_ac k p0 p1 _ hr3) ?_
    rintro _ _ ⟨rfl, rfl⟩
    refine ⟨(fun _ h => nomatch h), (allc (trivial) (fun _ h => nomatch h)), AOps_as 15 (v' := bV r3) (H' := []) rfl rfl ?_⟩
    refine AOps_q 4 _ rfl rfl rfl (QOp_assign _ _ rfl rfl) ?_
    refine AOps_q 5 _ rfl rfl rfl (QOp_assign _ _ rfl rfl) ?_
    refine AOps_nil ?_
    refine ACode_ret ?_
    cases h
    exact ⟨_, _, fun r a w h => ⟨r, h⟩, _, _, [], _, (.cons (ResV_tmp _ _ rfl) (.cons (ResV_tmp _ _ rfl) .nil)), rfl, rfl, rfl, rfl, rfl⟩

-- loop.example/g01362/spec.DrawSequenceColouring
def spec_DrawSequenceColouring_l0 (r3 : List Int × Src) : Nat → Int → Src → (List Int) → Option (Src × List Int)
  | 0, _, _, _ => none
  | k0 + 1, x4, x5, x6 => (if decide (x4 < (r3.1.length : Int)) then (if 0 ≤ x4 ∧ x4 < (r3.1.length : Int) then (spec_l01Pick x5 ([1, 3, 3])).bind fun r9 => (spec_l01Next r9.2 4).bind fun r10 => (if x6.length + ([w64 ((w64 ((r3.1.getD x4.toNat 0) * r9.1)) - r10.1)]).length ≤ 1099511627776 then spec_DrawSequenceColouring_l0 r3 k0 (w64 (x4 + 1)) r10.2 (x6 ++ ([w64 ((w64 ((r3.1.getD x4.toNat 0) * r9.1)) - r10.1)])) else none) else none) else some (x5, x6))
def spec_DrawSequenceColouring_l1 : Nat → (List Int) → Option (Sum (List Int) (List Int))
  | 0, _ => none
  | k1 + 1, x16 => (if decide ((x16.length : Int) < 18) then (if x16.length + ([w64 (100 + (x16.length : Int))]).length ≤ 1099511627776 then spec_DrawSequenceColouring_l1 k1 (x16 ++ ([w64 (100 + (x16.length : Int))])) else none) else some (.inl x16))
def spec_DrawSequenceColouring (k : Nat) (p0 : List UInt8) : Option (List Int) :=
  (spec_l01From k p0).bind fun r1 => (spec_l01Next r1 17).bind fun r2 => (spec_l01DrawOrder k r2.2 (w64 (1 + r2.1))).bind fun r3 => (spec_DrawSequenceColouring_l0 r3 k 0 r3.2 ([] : List Int) : Option (Src × List Int)).bind fun s12 => ((spec_l01Next s12.1 12).bind fun r13 => (if decide (r13.1 = 0) then some (.inr ([] : List Int)) else (if decide (r13.1 = 1) then spec_DrawSequenceColouring_l1 k s12.2 else (if decide (r13.1 = 2) then (spec_l01Pick r13.2 ([(-9223372036854775808), 4611686018427387904, 0])).bind fun r20 => (if 0 ≤ (0 : Int) ∧ (0 : Int) < (s12.2.length : Int) then some (.inl (s12.2.set (0 : Int).toNat r20.1)) else none) else some (.inl s12.2)))) : Option (Sum (List Int) (List Int))).bind fun os22 => (match os22 with | .inl s22 => some s22 | .inr rr => some rr)
set_option maxRecDepth 100000 in
theorem spec_DrawSequenceColouring_ac (k : Nat) (p0 : List UInt8) (r : List Int) (h : spec_DrawSequenceColouring k p0 = some r) : AC Try.prog 15 [.d (.sl none (bysD p0))] [] (fun res H' => res = [.vec 0 0] ∧ H' = [.vec 0 (intsD r)]) := by
  refine AC_of_body true Try.func15 rfl Try.ntmps15 (rvs := [.tmp 2]) rfl rfl (fun G hG => ?_)
  have hm : G.H.length = 0 := by rw [hG]; rfl
  have hz : zeroG G.H = true := by rw [hG]; rfl
  unfold spec_DrawSequenceColouring at h
  refine ACode_seq (ACode_region ?_)
  refine AOps_q 2 _ rfl rfl rfl (QOp_assign _ _ rfl rfl) ?_
  refine AOps_nil ?_
  refine ACode_seq (ACode_region ?_)
  refine AOps_q 7 _ rfl rfl rfl (QOp_move _ _ rfl rfl) ?_
  obtain ⟨r1, hr1, h⟩ := bindO h
  refine AOps_call [] 8 _ _ _ _ _ _ _ _ _ _ rfl rfl rfl rfl rfl rfl rfl Try.call57 rfl (nodupB_sound _ rfl) rfl rfl rfl (spec_l01From_ac k p0 _ hr1) ?_
  rintro _ _ ⟨rfl, rfl⟩
  refine ⟨(allc (fun _ _ => trivial) (fun _ h => nomatch h)), (allc (trivial) (fun _ h => nomatch h)), AOps_as 8 (v' := .ptr 0 0) (H' := [.box (srcD r1)]) rfl rfl ?_⟩
  refine AOps_q 3 _ rfl rfl rfl (QOp_assign _ _ rfl rfl) ?_
  refine AOps_nil ?_
  refine ACode_seq (ACode_region ?_)
  refine AOps_buildSlice 9 _ _ _ [] (intsD ([] : List Int)) _ rfl rfl rfl rfl rfl (by decide) Try.underlying29 Try.sizeOf2 (zero_of Try.typeInfo2 rfl) rfl rfl (intsD_one _) ?_
  refine AOps_q 10 _ rfl rfl rfl (QOp_move _ _ rfl rfl) ?_
  refine AOps_q 11 _ rfl rfl rfl (QOp_move _ _ rfl rfl) ?_
  obtain ⟨r2, hr2, h⟩ := bindO h
  refine AOps_call [0] 12 _ _ _ _ _ _ _ _ _ _ rfl rfl rfl rfl rfl rfl rfl Try.call59 rfl (nodupB_sound _ rfl) rfl rfl rfl (spec_l01Next_ac r1 17 _ hr2) ?_
  rintro _ _ ⟨rfl, rfl⟩
  refine ⟨(allc (fun _ _ => trivial) (fun _ h => nomatch h)), (allc (trivial) (fun _ h => nomatch h)), AOps_as 12 (v' := iV r2.1) (H' := [.box (srcD r2.2), .vec 0 (intsD ([] : List Int))]) rfl rfl ?_⟩
  refine AOps_q 13 _ rfl rfl rfl (QOp_add _ _ _ _ _ _ _ rfl rfl rfl) ?_
  obtain ⟨r3, hr3, h⟩ := bindO h
  refine AOps_call [0] 14 _ _ _ _ _ _ _ _ _ _ rfl rfl rfl rfl rfl rfl rfl Try.call58 rfl (nodupB_sound _ rfl) rfl rfl rfl (spec_l01DrawOrder_ac k r2.2 (w64 (1 + r2.1)) _ hr3) ?_
  rintro _ _ ⟨rfl, rfl⟩
  refine ⟨(allc (fun _ _ => trivial) (allc (fun _ _ => trivial) (fun _ h => nomatch h))), (allc (trivial) (fun _ h => nomatch h)), AOps_as 14 (v' := .vec 2 0) (H' := [.box (srcD r3.2), .vec 0 (intsD ([] : List Int)), .vec 0 (intsD r3.1)]) rfl rfl ?_⟩
  refine AOps_q 4 _ rfl rfl rfl (QOp_assign _ _ rfl rfl) ?_
  refine AOps_q 5 _ rfl rfl rfl (QOp_assign _ _ rfl rfl) ?_
  refine AOps_nil ?_
  obtain ⟨s12, hss12, hks12⟩ := bindO h
  clear h
  refine ACode_seqJ (fun E' H' => Weak 59 G E' H' [(3, .ptr 0 0), (4, .vec 1 0)] [.box (srcD s12.1), .vec 0 (intsD s12.2)]) ?_ ?_
  · have h := hss12
    clear hss12
    refine ACode_seq (ACode_region ?_)
    refine AOps_q 6 _ rfl rfl rfl (QOp_assign _ _ rfl rfl) ?_
    refine AOps_nil ?_
    refine ACode_block ?_
    refine ACode_loopW (fun k0 E H => ∃ (x4 : Int) (x5 : Src) (x6 : List Int), E = [(3, .ptr 0 0), (4, .vec 1 0), (5, .vec 2 0), (6, iV x4)] ∧ H = [.box (srcD x5), .vec 0 (intsD x6), .vec 0 (intsD r3.1)] ∧ spec_DrawSequenceColouring_l0 r3 k0 x4 x5 x6 = some s12) k _ _ (Weak_keep 0 hm [3, 4, 5, 6] [0, 1, 2] _ _ rfl rfl rfl) ⟨_, _, _, rfl, rfl, h⟩ ?_
    clear h
    rintro k0 E H ⟨x4, x5, x6, rfl, rfl, h⟩
    cases k0 with
    | zero => cases (show (none : Option (Src × List Int)) = some _ from h)
    | succ k0 =>
      rw [spec_DrawSequenceColouring_l0] at h
      refine ACode_seq ?_
      refine ACode_seq (ACode_region ?_)
      refine AOps_q 15 _ rfl rfl rfl (QOp_move _ _ rfl rfl) ?_
      refine AOps_q 16 _ rfl rfl rfl (QOp_move _ _ rfl rfl) ?_
      refine AOps_q 17 _ rfl rfl rfl (QOp_len_vec _ _ _ _ _ _ _ _ (intsD_length _) rfl rfl rfl rfl Try.underlying29 rfl rfl) ?_
      refine AOps_q 18 _ rfl rfl rfl (QOp_lss _ _ _ _ _ _ _ rfl rfl rfl) ?_
      refine AOps_nil ?_
      refine ACode_cond _ rfl (fun hb7 => ?_) (fun hb7 => ?_)
      · have h := iteT hb7 h
        refine ACode_skip ?_
        refine ACode_seq ?_
        refine ACode_block ?_
        obtain ⟨hc8, h⟩ := guardO h
        obtain ⟨r9, hr9, h⟩ := bindO h
        obtain ⟨r10, hr10, h⟩ := bindO h
        obtain ⟨hc11, h⟩ := guardO h
        refine ACode_reg [(3, .ptr 0 0), (4, .vec 1 0), (5, .vec 2 0), (6, iV x4)] [.box (srcD r10.2), .vec 0 (intsD (x6 ++ ([w64 ((w64 ((r3.1.getD x4.toNat 0) * r9.1)) - r10.1)]))), .vec 0 (intsD r3.1)] ?_ ?_
        · refine ACode_anyU mixed ?_
          refine AU_u 0 21 _ rfl (by kernel_rfl) rfl rfl rfl (UOp_move _ _ rfl rfl) ?_
          refine AU_u 1 22 _ rfl (by kernel_rfl) rfl rfl rfl (UOp_move _ _ rfl rfl) ?_
          refine AU_u 2 23 _ rfl (by kernel_rfl) rfl rfl rfl (UOp_move _ _ rfl rfl) ?_
          refine AU_u 3 24 _ rfl (by kernel_rfl) rfl rfl rfl (UOp_indexAddr_vec _ _ _ _ _ _ _ _ _ rfl Try.underlying29 Try.sizeOf2 hc8.1 (by rw [intsD_length]; exact hc8.2) rfl rfl rfl) ?_
          refine AU_u 5 26 _ rfl (by kernel_rfl) rfl rfl rfl (UOp_move _ _ rfl rfl) ?_
          refine AU_u 9 30 _ rfl (by kernel_rfl) rfl rfl rfl (UOp_move _ _ rfl rfl) ?_
          refine AU_all [4, 6] (by kernel_rfl) rfl (allc ?_ (allc ?_ (fun _ h => nomatch h)))
          · refine US_of 4 rfl rfl ?_
            refine AOps_q 25 _ rfl rfl rfl (QOp_load_eptr _ _ _ _ _ _ _ rfl Try.isAgg2 rfl rfl (intsD_get _ _ 0 (by omega))) ?_
            refine AOps_nil ?_
            refine AU_all [6] (by kernel_rfl) rfl (allc ?_ (fun _ h => nomatch h))
            · refine US_of 6 rfl rfl ?_
              refine AOps_buildSlice 27 _ _ _ [_, _, _] (intsD ([1, 3, 3])) _ rfl rfl rfl rfl rfl (by decide) Try.underlying29 Try.sizeOf2 (zero_of Try.typeInfo2 rfl) rfl rfl (intsD_one _) ?_
              refine AOps_nil ?_
              refine AU_all [7] (by kernel_rfl) rfl (allc ?_ (fun _ h => nomatch h))
              · refine US_of 7 rfl rfl ?_
                refine AOps_freezeL [27] 3 0 _ (allc (rfl) (fun _ h => nomatch h)) rfl ?_
                refine AOps_call [0] 28 _ _ _ _ _ _ _ _ _ _ rfl rfl rfl rfl rfl rfl rfl Try.call60 rfl (nodupB_sound _ rfl) rfl rfl rfl (spec_l01Pick_ac x5 ([1, 3, 3]) _ hr9) ?_
                rintro _ _ ⟨rfl, rfl⟩
                refine ⟨(allc (fun _ _ => trivial) (fun _ h => nomatch h)), (allc (trivial) (fun _ h => nomatch h)), AOps_as 28 (v' := iV r9.1) (H' := [.box (srcD r9.2), .vec 0 (intsD x6), .vec 0 (intsD r3.1), .gone]) rfl rfl ?_⟩
                refine AOps_nil ?_
                refine AU_u 8 29 _ rfl (by kernel_rfl) rfl rfl rfl (UOp_mul _ _ _ _ _ _ _ rfl rfl rfl) ?_
                refine AU_all [10] (by kernel_rfl) rfl (allc ?_ (fun _ h => nomatch h))
                · refine US_of 10 rfl rfl ?_
                  refine AOps_call [0] 31 _ _ _ _ _ _ _ _ _ _ rfl rfl rfl rfl rfl rfl rfl Try.call59 rfl (nodupB_sound _ rfl) rfl rfl rfl (spec_l01Next_ac r9.2 4 _ hr10) ?_
                  rintro _ _ ⟨rfl, rfl⟩
                  refine ⟨(allc (fun _ _ => trivial) (fun _ h => nomatch h)), (allc (trivial) (fun _ h => nomatch h)), AOps_as 31 (v' := iV r10.1) (H' := [.box (srcD r10.2), .vec 0 (intsD x6), .vec 0 (intsD r3.1), .gone]) rfl rfl ?_⟩
                  refine AOps_nil ?_
                  refine AU_u 11 32 _ rfl (by kernel_rfl) rfl rfl rfl (UOp_sub _ _ _ _ _ _ _ rfl rfl rfl) ?_
                  refine AU_all [12] (by kernel_rfl) rfl (allc ?_ (fun _ h => nomatch h))
                  · refine US_of 12 rfl rfl ?_
                    refine AOps_buildSlice 33 _ _ _ [_] (intsD ([w64 ((w64 ((r3.1.getD x4.toNat 0) * r9.1)) - r10.1)])) _ rfl rfl rfl rfl rfl (by decide) Try.underlying29 Try.sizeOf2 (zero_of Try.typeInfo2 rfl) rfl rfl (intsD_one _) ?_
                    refine AOps_nil ?_
                    refine AU_all [13] (by kernel_rfl) rfl (allc ?_ (fun _ h => nomatch h))
                    · refine US_of 13 rfl rfl ?_
                      refine AOps_append 34 _ _ _ _ _ _ _ _ _ _ _ _ rfl rfl rfl rfl rfl rfl rfl Try.underlying29 Try.type2 rfl rfl rfl (by decide) rfl rfl rfl rfl (intsD_one _) (by rw [intsD_length, intsD_length]; exact hc11) ?_
                      rw [intsD_app]
                      refine AOps_nil ?_
                      refine AU_u 14 4 _ rfl (by kernel_rfl) rfl rfl rfl (UOp_assign _ _ rfl rfl) ?_
                      refine AU_done (by kernel_rfl) ?_
                      exact ⟨rfl, Weak_trans (Weak_keep 0 hm [3, 4, 5, 6] [0, 1, 2] _ _ rfl rfl rfl) (Weak_reset 0 hm hz [3, 4, 5, 6] _ _ rfl rfl)⟩
          · refine US_of 6 rfl rfl ?_
            refine AOps_buildSlice 27 _ _ _ [_, _, _] (intsD ([1, 3, 3])) _ rfl rfl rfl rfl rfl (by decide) Try.underlying29 Try.sizeOf2 (zero_of Try.typeInfo2 rfl) rfl rfl (intsD_one _) ?_
            refine AOps_nil ?_
            refine AU_all [4, 7] (by kernel_rfl) rfl (allc ?_ (allc ?_ (fun _ h => nomatch h)))
            · refine US_of 4 rfl rfl ?_
              refine AOps_q 25 _ rfl rfl rfl (QOp_load_eptr _ _ _ _ _ _ _ rfl Try.isAgg2 rfl rfl (intsD_get _ _ 0 (by omega))) ?_
              refine AOps_nil ?_
              refine AU_all [7] (by kernel_rfl) rfl (allc ?_ (fun _ h => nomatch h))
              · refine US_of 7 rfl rfl ?_
                refine AOps_freezeL [27] 3 0 _ (allc (rfl) (fun _ h => nomatch h)) rfl ?_
                refine AOps_call [0] 28 _ _ _ _ _ _ _ _ _ _ rfl rfl rfl rfl rfl rfl rfl Try.call60 rfl (nodupB_sound _ rfl) rfl rfl rfl (spec_l01Pick_ac x5 ([1, 3, 3]) _ hr9) ?_
                rintro _ _ ⟨rfl, rfl⟩
                refine ⟨(allc (fun _ _ => trivial) (fun _ h => nomatch h)), (allc (trivial) (fun _ h => nomatch h)), AOps_as 28 (v' := iV r9.1) (H' := [.box (srcD r9.2), .vec 0 (intsD x6), .vec 0 (intsD r3.1), .gone]) rfl rfl ?_⟩
                refine AOps_nil ?_
                refine AU_u 8 29 _ rfl (by kernel_rfl) rfl rfl rfl (UOp_mul _ _ _ _ _ _ _ rfl rfl rfl) ?_
                refine AU_all [10] (by kernel_rfl) rfl (allc ?_ (fun _ h => nomatch h))
                · refine US_of 10 rfl rfl ?_
                  refine AOps_call [0] 31 _ _ _ _ _ _ _ _ _ _ rfl rfl rfl rfl rfl rfl rfl Try.call59 rfl (nodupB_sound _ rfl) rfl rfl rfl (spec_l01Next_ac r9.2 4 _ hr10) ?_
                  rintro _ _ ⟨rfl, rfl⟩
                  refine ⟨(allc (fun _ _ => trivial) (fun _ h => nomatch h)), (allc (trivial) (fun _ h => nomatch h)), AOps_as 31 (v' := iV r10.1) (H' := [.box (srcD r10.2), .vec 0 (intsD x6), .vec 0 (intsD r3.1), .gone]) rfl rfl ?_⟩
                  refine AOps_nil ?_
                  refine AU_u 11 32 _ rfl (by kernel_rfl) rfl rfl rfl (UOp_sub _ _ _ _ _ _ _ rfl rfl rfl) ?_
                  refine AU_all [12] (by kernel_rfl) rfl (allc ?_ (fun _ h => nomatch h))
                  · refine US_of 12 rfl rfl ?_
                    refine AOps_buildSlice 33 _ _ _ [_] (intsD ([w64 ((w64 ((r3.1.getD x4.toNat 0) * r9.1)) - r10.1)])) _ rfl rfl rfl rfl rfl (by decide) Try.underlying29 Try.sizeOf2 (zero_of Try.typeInfo2 rfl) rfl rfl (intsD_one _) ?_
                    refine AOps_nil ?_
                    refine AU_all [13] (by kernel_rfl) rfl (allc ?_ (fun _ h => nomatch h))
                    · refine US_of 13 rfl rfl ?_
                      refine AOps_append 34 _ _ _ _ _ _ _ _ _ _ _ _ rfl rfl rfl rfl rfl rfl rfl Try.underlying29 Try.type2 rfl rfl rfl (by decide) rfl rfl rfl rfl (intsD_one _) (by rw [intsD_length, intsD_length]; exact hc11) ?_
                      rw [intsD_app]
                      refine AOps_nil ?_
                      refine AU_u 14 4 _ rfl (by kernel_rfl) rfl rfl rfl (UOp_assign _ _ rfl rfl) ?_
                      refine AU_done (by kernel_rfl) ?_
                      exact ⟨rfl, Weak_trans (Weak_keep 0 hm [3, 4, 5, 6] [0, 1, 2] _ _ rfl rfl rfl) (Weak_reset 0 hm hz [3, 4, 5, 6] _ _ rfl rfl)⟩
            · refine US_of 7 rfl rfl ?_
              refine AOps_freezeL [27] 3 0 _ (allc (rfl) (fun _ h => nomatch h)) rfl ?_
              refine AOps_call [0] 28 _ _ _ _ _ _ _ _ _ _ rfl rfl rfl rfl rfl rfl rfl Try.call60 rfl (nodupB_sound _ rfl) rfl rfl rfl (spec_l01Pick_ac x5 ([1, 3, 3]) _ hr9) ?_
              rintro _ _ ⟨rfl, rfl⟩
              refine ⟨(allc (fun _ _ => trivial) (fun _ h => nomatch h)), (allc (trivial) (fun _ h => nomatch h)), AOps_as 28 (v' := iV r9.1) (H' := [.box (srcD r9.2), .vec 0 (intsD x6), .vec 0 (intsD r3.1), .gone]) rfl rfl ?_⟩
              refine AOps_nil ?_
              refine AU_all [4, 10] (by kernel_rfl) rfl (allc ?_ (allc ?_ (fun _ h => nomatch h)))
              · refine US_of 4 rfl rfl ?_
                refine AOps_q 25 _ rfl rfl rfl (QOp_load_eptr _ _ _ _ _ _ _ rfl Try.isAgg2 rfl rfl (intsD_get _ _ 0 (by omega))) ?_
                refine AOps_nil ?_
                refine AU_u 8 29 _ rfl (by kernel_rfl) rfl rfl rfl (UOp_mul _ _ _ _ _ _ _ rfl rfl rfl) ?_
                refine AU_all [10] (by kernel_rfl) rfl (allc ?_ (fun _ h => nomatch h))
                · refine US_of 10 rfl rfl ?_
                  refine AOps_call [0] 31 _ _ _ _ _ _ _ _ _ _ rfl rfl rfl rfl rfl rfl rfl Try.call59 rfl (nodupB_sound _ rfl) rfl rfl rfl (spec_l01Next_ac r9.2 4 _ hr10) ?_
                  rintro _ _ ⟨rfl, rfl⟩
                  refine ⟨(allc (fun _ _ => trivial) (fun _ h => nomatch h)), (allc (trivial) (fun _ h => nomatch h)), AOps_as 31 (v' := iV r10.1) (H' := [.box (srcD r10.2), .vec 0 (intsD x6), .vec 0 (intsD r3.1), .gone]) rfl rfl ?_⟩
                  refine AOps_nil ?_
                  refine AU_u 11 32 _ rfl (by kernel_rfl) rfl rfl rfl (UOp_sub _ _ _ _ _ _ _ rfl rfl rfl) ?_
                  refine AU_all [12] (by kernel_rfl) rfl (allc ?_ (fun _ h => nomatch h))
                  · refine US_of 12 rfl rfl ?_
                    refine AOps_buildSlice 33 _ _ _ [_] (intsD ([w64 ((w64 ((r3.1.getD x4.toNat 0) * r9.1)) - r10.1)])) _ rfl rfl rfl rfl rfl (by decide) Try.underlying29 Try.sizeOf2 (zero_of Try.typeInfo2 rfl) rfl rfl (intsD_one _) ?_
                    refine AOps_nil ?_
                    refine AU_all [13] (by kernel_rfl) rfl (allc ?_ (fun _ h => nomatch h))
                    · refine US_of 13 rfl rfl ?_
                      refine AOps_append 34 _ _ _ _ _ _ _ _ _ _ _ _ rfl rfl rfl rfl rfl rfl rfl Try.underlying29 Try.type2 rfl rfl rfl (by decide) rfl rfl rfl rfl (intsD_one _) (by rw [intsD_length, intsD_length]; exact hc11) ?_
                      rw [intsD_app]
                      refine AOps_nil ?_
                      refine AU_u 14 4 _ rfl (by kernel_rfl) rfl rfl rfl (UOp_assign _ _ rfl rfl) ?_
                      refine AU_done (by kernel_rfl) ?_
                      exact ⟨rfl, Weak_trans (Weak_keep 0 hm [3, 4, 5, 6] [0, 1, 2] _ _ rfl rfl rfl) (Weak_reset 0 hm hz [3, 4, 5, 6] _ _ rfl rfl)⟩
              · refine US_of 10 rfl rfl ?_
                refine AOps_call [0] 31 _ _ _ _ _ _ _ _ _ _ rfl rfl rfl rfl rfl rfl rfl Try.call59 rfl (nodupB_sound _ rfl) rfl rfl rfl (spec_l01Next_ac r9.2 4 _ hr10) ?_
                rintro _ _ ⟨rfl, rfl⟩
                refine ⟨(allc (fun _ _ => trivial) (fun _ h => nomatch h)), (allc (trivial) (fun _ h => nomatch h)), AOps_as 31 (v' := iV r10.1) (H' := [.box (srcD r10.2), .vec 0 (intsD x6), .vec 0 (intsD r3.1), .gone]) rfl rfl ?_⟩
                refine AOps_nil ?_
                refine AU_all [4] (by kernel_rfl) rfl (allc ?_ (fun _ h => nomatch h))
                · refine US_of 4 rfl rfl ?_
                  refine AOps_q 25 _ rfl rfl rfl (QOp_load_eptr _ _ _ _ _ _ _ rfl Try.isAgg2 rfl rfl (intsD_get _ _ 0 (by omega))) ?_
                  refine AOps_nil ?_
                  refine AU_u 8 29 _ rfl (by kernel_rfl) rfl rfl rfl (UOp_mul _ _ _ _ _ _ _ rfl rfl rfl) ?_
                  refine AU_u 11 32 _ rfl (by kernel_rfl) rfl rfl rfl (UOp_sub _ _ _ _ _ _ _ rfl rfl rfl) ?_
                  refine AU_all [12] (by kernel_rfl) rfl (allc ?_ (fun _ h => nomatch h))
                  · refine US_of 12 rfl rfl ?_
                    refine AOps_buildSlice 33 _ _ _ [_] (intsD ([w64 ((w64 ((r3.1.getD x4.toNat 0) * r9.1)) - r10.1)])) _ rfl rfl rfl rfl rfl (by decide) Try.underlying29 Try.sizeOf2 (zero_of Try.typeInfo2 rfl) rfl rfl (intsD_one _) ?_
                    refine AOps_nil ?_
                    refine AU_all [13] (by kernel_rfl) rfl (allc ?_ (fun _ h => nomatch h))
                    · refine US_of 13 rfl rfl ?_
                      refine AOps_append 34 _ _ _ _ _ _ _ _ _ _ _ _ rfl rfl rfl rfl rfl rfl rfl Try.underlying29 Try.type2 rfl rfl rfl (by decide) rfl rfl rfl rfl (intsD_one _) (by rw [intsD_length, intsD_length]; exact hc11) ?_
                      rw [intsD_app]
                      refine AOps_nil ?_
                      refine AU_u 14 4 _ rfl (by kernel_rfl) rfl rfl rfl (UOp_assign _ _ rfl rfl) ?_
                      refine AU_done (by kernel_rfl) ?_
                      exact ⟨rfl, Weak_trans (Weak_keep 0 hm [3, 4, 5, 6] [0, 1, 2] _ _ rfl rfl rfl) (Weak_reset 0 hm hz [3, 4, 5, 6] _ _ rfl rfl)⟩
        refine (ACode_region ?_)
        refine AOps_q 19 _ rfl rfl rfl (QOp_move _ _ rfl rfl) ?_
        refine AOps_q 20 _ rfl rfl rfl (QOp_add _ _ _ _ _ _ _ rfl rfl rfl) ?_
        refine AOps_q 6 _ rfl rfl rfl (QOp_assign _ _ rfl rfl) ?_
        refine AOps_nil ?_
        exact ⟨k0, _, _, Nat.lt_succ_self _, Weak_keep 0 hm [3, 4, 5, 6] [0, 1, 2] _ _ rfl rfl rfl, _, _, _, rfl, rfl, h⟩
      · have h := iteF hb7 h
        refine ACode_exit ?_
        cases h
        exact Weak_keep 0 hm [3, 4] [0, 1] _ _ rfl rfl rfl
  intro E' H' hw
  refine ACode_weak hw ?_
  have h := hks12
  obtain ⟨os22, hss22, hks22⟩ := bindO h
  clear h
  refine ACode_seqJ (fun E' H' => ∃ s22 : List Int, os22 = .inl s22 ∧ Weak 59 G E' H' [(4, .vec 0 0)] [.vec 0 (intsD s22)]) ?_ ?_
  · have h := hss22
    clear hss22
    refine ACode_seq (ACode_region ?_)
    refine AOps_q 35 _ rfl rfl rfl (QOp_move _ _ rfl rfl) ?_
    obtain ⟨r13, hr13, h⟩ := bindO h
    refine AOps_call [0] 36 _ _ _ _ _ _ _ _ _ _ rfl rfl rfl rfl rfl rfl rfl Try.call59 rfl (nodupB_sound _ rfl) rfl rfl rfl (spec_l01Next_ac s12.1 12 _ hr13) ?_
    rintro _ _ ⟨rfl, rfl⟩
    refine ⟨(allc (fun _ _ => trivial) (fun _ h => nomatch h)), (allc (trivial) (fun _ h => nomatch h)), AOps_as 36 (v' := iV r13.1) (H' := [.box (srcD r13.2), .vec 0 (intsD s12.2)]) rfl rfl ?_⟩
    refine AOps_nil ?_
    refine ACode_block ?_
    refine ACode_seq (ACode_region ?_)
    refine AOps_q 38 _ rfl rfl rfl (QOp_eql _ _ _ _ _ _ _ rfl rfl rfl) ?_
    refine AOps_q 37 _ rfl rfl rfl (QOp_assign _ _ rfl rfl) ?_
    refine AOps_nil ?_
    refine ACode_cond _ rfl (fun hb14 => ?_) (fun hb14 => ?_)
    · have h := iteT hb14 h
      refine ACode_seq (ACode_region ?_)
      refine AOps_buildSlice 39 _ _ _ [] (intsD ([] : List Int)) _ rfl rfl rfl rfl rfl (by decide) Try.underlying29 Try.sizeOf2 (zero_of Try.typeInfo2 rfl) rfl rfl (intsD_one _) ?_
      refine AOps_q 2 _ rfl rfl rfl (QOp_assign _ _ rfl rfl) ?_
      refine AOps_nil ?_
      refine ACode_ret ?_
      cases h
      have h := hks22
      cases h
      exact ⟨_, _, Weak_reset 0 hm hz [2] _ _ rfl rfl, _, _, [2], _, (.cons (ResV_tmp _ _ rfl) .nil), rfl, rfl, rfl, rfl, rfl⟩
    · have h := iteF hb14 h
      refine ACode_seq (ACode_region ?_)
      refine AOps_q 41 _ rfl rfl rfl (QOp_eql _ _ _ _ _ _ _ rfl rfl rfl) ?_
      refine AOps_q 40 _ rfl rfl rfl (QOp_assign _ _ rfl rfl) ?_
      refine AOps_nil ?_
      refine ACode_cond _ rfl (fun hb15 => ?_) (fun hb15 => ?_)
      · have h := iteT hb15 h
        refine ACode_block ?_
        refine ACode_loopW (fun k1 E H => ∃ (x16 : List Int), E = [(4, .vec 0 0)] ∧ H = [.vec 0 (intsD x16)] ∧ spec_DrawSequenceColouring_l1 k1 x16 = some os22) k _ _ (Weak_keep 0 hm [4] [1] _ _ rfl rfl rfl) ⟨_, rfl, rfl, h⟩ ?_
        clear h
        rintro k1 E H ⟨x16, rfl, rfl, h⟩
        cases k1 with
        | zero => cases (show (none : Option (Sum (List Int) (List Int))) = some _ from h)
        | succ k1 =>
          rw [spec_DrawSequenceColouring_l1] at h
          refine ACode_seq ?_
          refine ACode_seq (ACode_region ?_)
          refine AOps_q 42 _ rfl rfl rfl (QOp_move _ _ rfl rfl) ?_
          refine AOps_q 43 _ rfl rfl rfl (QOp_len_vec _ _ _ _ _ _ _ _ (intsD_length _) rfl rfl rfl rfl Try.underlying29 rfl rfl) ?_
          refine AOps_q 44 _ rfl rfl rfl (QOp_lss _ _ _ _ _ _ _ rfl rfl rfl) ?_
          refine AOps_nil ?_
          refine ACode_cond _ rfl (fun hb17 => ?_) (fun hb17 => ?_)
          · have h := iteT hb17 h
            refine ACode_skip ?_
            refine ACode_block ?_
            refine (ACode_region ?_)
            refine AOps_q 45 _ rfl rfl rfl (QOp_move _ _ rfl rfl) ?_
            refine AOps_q 46 _ rfl rfl rfl (QOp_move _ _ rfl rfl) ?_
            refine AOps_q 47 _ rfl rfl rfl (QOp_len_vec _ _ _ _ _ _ _ _ (intsD_length _) rfl rfl rfl rfl Try.underlying29 rfl rfl) ?_
            refine AOps_q 48 _ rfl rfl rfl (QOp_add _ _ _ _ _ _ _ rfl rfl rfl) ?_
            refine AOps_buildSlice 49 _ _ _ [_] (intsD ([w64 (100 + (x16.length : Int))])) _ rfl rfl rfl rfl rfl (by decide) Try.underlying29 Try.sizeOf2 (zero_of Try.typeInfo2 rfl) rfl rfl (intsD_one _) ?_
            obtain ⟨hc18, h⟩ := guardO h
            refine AOps_append 50 _ _ _ _ _ _ _ _ _ _ _ _ rfl rfl rfl rfl rfl rfl rfl Try.underlying29 Try.type2 rfl rfl rfl (by decide) rfl rfl rfl rfl (intsD_one _) (by rw [intsD_length, intsD_length]; exact hc18) ?_
            rw [intsD_app]
            refine AOps_q 4 _ rfl rfl rfl (QOp_assign _ _ rfl rfl) ?_
            refine AOps_nil ?_
            exact ⟨k1, _, _, Nat.lt_succ_self _, Weak_trans (Weak_keep 0 hm [4] [0] _ _ rfl rfl rfl) (Weak_reset 0 hm hz [4] _ _ rfl rfl), _, rfl, rfl, h⟩
          · have h := iteF hb17 h
            refine ACode_exit ?_
            cases h
            exact ⟨_, rfl, Weak_keep 0 hm [4] [0] _ _ rfl rfl rfl⟩
      · have h := iteF hb15 h
        refine ACode_seq (ACode_region ?_)
        refine AOps_q 52 _ rfl rfl rfl (QOp_eql _ _ _ _ _ _ _ rfl rfl rfl) ?_
        refine AOps_q 51 _ rfl rfl rfl (QOp_assign _ _ rfl rfl) ?_
        refine AOps_nil ?_
        refine ACode_cond _ rfl (fun hb19 => ?_) (fun hb19 => ?_)
        · have h := iteT hb19 h
          refine (ACode_region ?_)
          refine AOps_q 53 _ rfl rfl rfl (QOp_move _ _ rfl rfl) ?_
          refine AOps_q 54 _ rfl rfl rfl (QOp_move _ _ rfl rfl) ?_
          refine AOps_buildSlice 55 _ _ _ [_, _, _] (intsD ([(-9223372036854775808), 4611686018427387904, 0])) _ rfl rfl rfl rfl rfl (by decide) Try.underlying29 Try.sizeOf2 (zero_of Try.typeInfo2 rfl) rfl rfl (intsD_one _) ?_
          refine AOps_freezeL [55] 2 0 _ (allc (rfl) (fun _ h => nomatch h)) rfl ?_
          obtain ⟨r20, hr20, h⟩ := bindO h
          refine AOps_call [0] 56 _ _ _ _ _ _ _ _ _ _ rfl rfl rfl rfl rfl rfl rfl Try.call60 rfl (nodupB_sound _ rfl) rfl rfl rfl (spec_l01Pick_ac r13.2 ([(-9223372036854775808), 4611686018427387904, 0]) _ hr20) ?_
          rintro _ _ ⟨rfl, rfl⟩
          refine ⟨(allc (fun _ _ => trivial) (fun _ h => nomatch h)), (allc (trivial) (fun _ h => nomatch h)), AOps_as 56 (v' := iV r20.1) (H' := [.box (srcD r20.2), .vec 0 (intsD s12.2), .gone]) rfl rfl ?_⟩
          obtain ⟨hc21, h⟩ := guardO h
          refine AOps_q 57 _ rfl rfl rfl (QOp_indexAddr_vec _ _ _ _ _ _ _ _ _ rfl Try.underlying29 Try.sizeOf2 hc21.1 (by rw [intsD_length]; exact hc21.2) rfl rfl rfl) ?_
          refine AOps_store_eptr _ _ _ _ _ _ (intsD s12.2) _ rfl rfl rfl rfl rfl rfl rfl Try.sizeOf2 (by rw [intsD_length]; omega) ?_
          rw [intsD_set]
          refine AOps_nil ?_
          cases h
          exact ⟨_, rfl, Weak_keep 0 hm [4] [1] _ _ rfl rfl rfl⟩
        · have h := iteF hb19 h
          refine ACode_skip ?_
          cases h
          exact ⟨_, rfl, Weak_keep 0 hm [4] [1] _ _ rfl rfl rfl⟩
  rintro E' H' ⟨s22, rfl, hw⟩
  refine ACode_weak hw ?_
  have h := hks22
  refine ACode_seq (ACode_region ?_)
  refine AOps_q 58 _ rfl rfl rfl (QOp_move _ _ rfl rfl) ?_
  refine AOps_q 2 _ rfl rfl rfl (QOp_assign _ _ rfl rfl) ?_
  refine AOps_nil ?_
  refine ACode_ret ?_
  cases h
  exact ⟨_, _, Weak_reset 0 hm hz [2] _ _ rfl rfl, _, _, [0], _, (.cons (ResV_tmp _ _ rfl) .nil), rfl, rfl, rfl, rfl, rfl⟩

-- loop.example/g01362/impl.size[int64]
def impl_size (p0 : List Int) : Int :=
  (p0.length : Int)
set_option maxRecDepth 100000 in
theorem impl_size_ac (p0 : List Int) : AC Try.prog 61 [.d (.sl none (intsD p0))] [] (fun res H' => res = [iV (impl_size p0)] ∧ H' = []) := by
  refine AC_of_body true Try.func61 rfl Try.ntmps61 (rvs := [.tmp 2]) rfl rfl (fun G hG => ?_)
  have hm : G.H.length = 0 := by rw [hG]; rfl
  have hz : zeroG G.H = true := by rw [hG]; rfl
  obtain ⟨r, h⟩ : ∃ r, impl_size p0 = r := ⟨_, rfl⟩
  rw [h]
  unfold impl_size at h
  refine ACode_seq (ACode_region ?_)
  refine AOps_q 2 _ rfl rfl rfl (QOp_assign _ _ rfl rfl) ?_
  refine AOps_nil ?_
  refine ACode_seq (ACode_region ?_)
  refine AOps_q 3 _ rfl rfl rfl (QOp_move _ _ rfl rfl) ?_
  refine AOps_q 4 _ rfl rfl rfl (QOp_len_sl _ _ _ _ _ _ _ (intsD_length _) rfl rfl rfl rfl Try.underlying29 rfl) ?_
  refine AOps_q 2 _ rfl rfl rfl (QOp_assign _ _ rfl rfl) ?_
  refine AOps_nil ?_
  refine ACode_ret ?_
  cases h
  exact ⟨_, _, fun r a w h => ⟨r, h⟩, _, _, [], _, (.cons (ResV_tmp _ _ rfl) .nil), rfl, rfl, rfl, rfl, rfl⟩

-- slices.Index[[]int64,int64]
def slices_Index_l0 (p0 : List Int) (p1 : Int) : Nat → Int → Option (Sum (Unit) (Int))
  | 0, _ => none
  | k0 + 1, x1 => (if decide (x1 < (p0.length : Int)) then (if 0 ≤ x1 ∧ x1 < (p0.length : Int) then (if decide (p1 = (p0.getD x1.toNat 0)) then some (.inr x1) else slices_Index_l0 p0 p1 k0 (w64 (x1 + 1))) else none) else some (.inl ()))
def slices_Index (k : Nat) (p0 : List Int) (p1 : Int) : Option (Int) :=
  (slices_Index_l0 p0 p1 k 0 : Option (Sum (Unit) (Int))).bind fun os5 => (match os5 with | .inl s5 => some (-1) | .inr rr => some rr)
set_option maxRecDepth 100000 in
theorem slices_Index_ac (k : Nat) (p0 : List Int) (p1 : Int) (r : Int) (h : slices_Index k p0 p1 = some r) : AC Try.prog 113 [.d (.sl none (intsD p0)), iV p1] [] (fun res H' => res = [iV r] ∧ H' = []) := by
  refine AC_of_body true Try.func113 rfl Try.ntmps113 (rvs := [.tmp 4]) rfl rfl (fun G hG => ?_)
  have hm : G.H.length = 0 := by rw [hG]; rfl
  have hz : zeroG G.H = true := by rw [hG]; rfl
  unfold slices_Index at h
  refine ACode_seq (ACode_region ?_)
  refine AOps_q 4 _ rfl rfl rfl (QOp_assign _ _ rfl rfl) ?_
  refine AOps_nil ?_
  obtain ⟨os5, hss5, hks5⟩ := bindO h
  clear h
  refine ACode_seqJ (fun E' H' => ∃ s5 : Unit, os5 = .inl s5 ∧ Weak 19 G E' H' [] []) ?_ ?_
  · have h := hss5
    clear hss5
    refine ACode_seq (ACode_region ?_)
    refine AOps_q 6 _ rfl rfl rfl (QOp_move _ _ rfl rfl) ?_
    refine AOps_q 7 _ rfl rfl rfl (QOp_len_sl _ _ _ _ _ _ _ (intsD_length _) rfl rfl rfl rfl Try.underlying29 rfl) ?_
    refine AOps_q 8 _ rfl rfl rfl (QOp_move _ _ rfl rfl) ?_
    refine AOps_nil ?_
    refine ACode_block ?_
    refine ACode_loopW (fun k0 E H => ∃ (x1 : Int), E = [(0, .d (.sl none (intsD p0))), (1, iV p1), (7, iV (p0.length : Int)), (8, iV x1)] ∧ H = [] ∧ slices_Index_l0 p0 p1 k0 x1 = some os5) k _ _ (Weak_keep 0 hm [0, 1, 7, 8] [] _ _ rfl rfl rfl) ⟨_, rfl, rfl, h⟩ ?_
    clear h
    rintro k0 E H ⟨x1, rfl, rfl, h⟩
    cases k0 with
    | zero => cases (show (none : Option (Sum (Unit) (Int))) = some _ from h)
    | succ k0 =>
      rw [slices_Index_l0] at h
      refine ACode_seq (ACode_region ?_)
      refine AOps_q 9 _ rfl rfl rfl (QOp_lss _ _ _ _ _ _ _ rfl rfl rfl) ?_
      refine AOps_nil ?_
      refine ACode_seq ?_
      refine ACode_cond _ rfl (fun hb2 => ?_) (fun hb2 => ?_)
      · have h := iteT hb2 h
        refine ACode_skip ?_
        refine ACode_seq ?_
        refine ACode_block ?_
        refine ACode_seq (ACode_region ?_)
        refine AOps_q 10 _ rfl rfl rfl (QOp_move _ _ rfl rfl) ?_
        refine AOps_q 5 _ rfl rfl rfl (QOp_assign _ _ rfl rfl) ?_
        refine AOps_nil ?_
        refine ACode_seq (ACode_region ?_)
        refine AOps_q 11 _ rfl rfl rfl (QOp_move _ _ rfl rfl) ?_
        refine AOps_q 12 _ rfl rfl rfl (QOp_move _ _ rfl rfl) ?_
        refine AOps_q 13 _ rfl rfl rfl (QOp_move _ _ rfl rfl) ?_
        obtain ⟨hc3, h⟩ := guardO h
        refine AOps_q 14 _ rfl rfl rfl (QOp_indexAddr_sl _ _ _ _ _ _ _ _ rfl Try.underlying29 Try.sizeOf2 hc3.1 (by rw [intsD_length]; exact hc3.2) rfl rfl) ?_
        refine AOps_q 15 _ rfl rfl rfl (QOp_load_pv _ _ _ _ _ rfl Try.isAgg2 rfl (intsD_get _ _ 0 (by omega))) ?_
        refine AOps_q 16 _ rfl rfl rfl (QOp_eql _ _ _ _ _ _ _ rfl rfl rfl) ?_
        refine AOps_nil ?_
        refine ACode_cond _ rfl (fun hb4 => ?_) (fun hb4 => ?_)
        · have h := iteT hb4 h
          refine ACode_seq (ACode_region ?_)
          refine AOps_q 17 _ rfl rfl rfl (QOp_move _ _ rfl rfl) ?_
          refine AOps_q 4 _ rfl rfl rfl (QOp_assign _ _ rfl rfl) ?_
          refine AOps_nil ?_
          refine ACode_ret ?_
          cases h
          have h := hks5
          cases h
          exact ⟨_, _, fun r a w h => ⟨r, h⟩, _, _, [], _, (.cons (ResV_tmp _ _ rfl) .nil), rfl, rfl, rfl, rfl, rfl⟩
        · have h := iteF hb4 h
          refine ACode_skip ?_
          refine (ACode_region ?_)
          refine AOps_q 18 _ rfl rfl rfl (QOp_add _ _ _ _ _ _ _ rfl rfl rfl) ?_
          refine AOps_q 8 _ rfl rfl rfl (QOp_move _ _ rfl rfl) ?_
          refine AOps_nil ?_
          exact ⟨k0, _, _, Nat.lt_succ_self _, Weak_keep 0 hm [0, 1, 7, 8] [] _ _ rfl rfl rfl, _, rfl, rfl, h⟩
      · have h := iteF hb2 h
        refine ACode_exit ?_
        cases h
        exact ⟨_, rfl, Weak_keep 0 hm [] [] _ _ rfl rfl rfl⟩
  rintro E' H' ⟨s5, rfl, hw⟩
  refine ACode_weak hw ?_
  have h := hks5
  refine ACode_seq (ACode_region ?_)
  refine AOps_q 4 _ rfl rfl rfl (QOp_assign _ _ rfl rfl) ?_
  refine AOps_nil ?_
  refine ACode_ret ?_
  cases h
  exact ⟨_, _, fun r a w h => ⟨r, h⟩, _, _, [], _, (.cons (ResV_tmp _ _ rfl) .nil), rfl, rfl, rfl, rfl, rfl⟩

-- slices.Contains[[]int64,int64]
def slices_Contains (k : Nat) (p0 : List Int) (p1 : Int) : Option (Bool) :=
  (slices_Index k p0 p1).bind fun r1 => some (decide (0 ≤ r1))
set_option maxRecDepth 100000 in
theorem slices_Contains_ac (k : Nat) (p0 : List Int) (p1 : Int) (r : Bool) (h : slices_Contains k p0 p1 = some r) : AC Try.prog 63 [.d (.sl none (intsD p0)), iV p1] [] (fun res H' => res = [bV r] ∧ H' = []) := by
  refine AC_of_body true Try.func63 rfl Try.ntmps63 (rvs := [.tmp 4]) rfl rfl (fun G hG => ?_)
  have hm : G.H.length = 0 := by rw [hG]; rfl
  have hz : zeroG G.H = true := by rw [hG]; rfl
  unfold slices_Contains at h
  refine ACode_seq (ACode_region ?_)
  refine AOps_q 4 _ rfl rfl rfl (QOp_assign _ _ rfl rfl) ?_
  refine AOps_nil ?_
  refine ACode_seq (ACode_region ?_)
  refine AOps_q 5 _ rfl rfl rfl (QOp_move _ _ rfl rfl) ?_
  refine AOps_q 6 _ rfl rfl rfl (QOp_move _ _ rfl rfl) ?_
  obtain ⟨r1, hr1, h⟩ := bindO h
  refine AOps_call [] 7 _ _ _ _ _ _ _ _ _ _ rfl rfl rfl rfl rfl rfl rfl Try.call113 rfl (nodupB_sound _ rfl) rfl rfl rfl (slices_Index_ac k p0 p1 _ hr1) ?_
  rintro _ _ ⟨rfl, rfl⟩
  refine ⟨(fun _ h => nomatch h), (allc (trivial) (fun _ h => nomatch h)), AOps_as 7 (v' := iV r1) (H' := []) rfl rfl ?_⟩
  refine AOps_q 8 _ rfl rfl rfl (QOp_geq _ _ _ _ _ _ _ rfl rfl rfl) ?_
  refine AOps_q 4 _ rfl rfl rfl (QOp_assign _ _ rfl rfl) ?_
  refine AOps_nil ?_
  refine ACode_ret ?_
  cases h
  exact ⟨_, _, fun r a w h => ⟨r, h⟩, _, _, [], _, (.cons (ResV_tmp _ _ rfl) .nil), rfl, rfl, rfl, rfl, rfl⟩

-- (*loop.example/g01362/impl.Colouring).put
def impl_Colouring_put (p0 : Col) (p1 : Int) (p2 : Int) (p3 : Int) : Option (Col) :=
  (if 0 ≤ (impl_number p1 p2) ∧ (impl_number p1 p2) < 136 then some (p0.set ((impl_number p1 p2).toNat) (toByte p3)) else none)
set_option maxRecDepth 100000 in
theorem impl_Colouring_put_ac (p0 : Col) (p1 : Int) (p2 : Int) (p3 : Int) (r : Col) (h : impl_Colouring_put p0 p1 p2 p3 = some r) : AC Try.prog 114 [.ptr 0 0, iV p1, iV p2, iV p3] [.box (colD p0)] (fun res H' => res = [] ∧ H' = [.box (colD r)]) := by
  refine AC_of_body true Try.func114 rfl Try.ntmps114 (rvs := []) rfl rfl (fun G hG => ?_)
  have hm : G.H.length = 1 := by rw [hG]; rfl
  have hz : zeroG G.H = true := by rw [hG]; rfl
  unfold impl_Colouring_put at h
  refine (ACode_last (l := [_, _, _, _, _, _, _, _, _]) mixed (by kernel_rfl) (by kernel_rfl) ?_)
  refine AQ_q 8 _ rfl rfl rfl (QOp_move _ _ rfl rfl) ?_
  refine AQ_q 9 _ rfl rfl rfl (QOp_move _ _ rfl rfl) ?_
  refine AQ_q 10 _ rfl rfl rfl (QOp_move _ _ rfl rfl) ?_
  refine AQ_call 11 _ _ _ _ _ _ _ _ _ rfl rfl rfl rfl rfl rfl rfl Try.call109 rfl rfl rfl (impl_number_ac p1 p2) ?_
  refine AQ_q 12 _ rfl rfl rfl (QOp_move _ _ rfl rfl) ?_
  refine AQ_q 13 _ rfl rfl rfl (QOp_toByte _ _ _ _ _ rfl rfl Try.underlying5 rfl) ?_
  refine AQ_q 14 _ rfl rfl rfl (QOp_nilCheck_ptr _ _ _ _ rfl rfl rfl rfl) ?_
  refine AQ_q 15 _ rfl rfl rfl (QOp_fieldAddr_ptr _ _ _ _ _ _ 2 _ _ rfl Try.underlying26 rfl _ Try.sizeOf24 rfl rfl rfl rfl) ?_
  obtain ⟨hc2, h⟩ := guardO h
  refine AQ_q 16 _ rfl rfl rfl (QOp_indexAddrA_ptr _ _ _ _ _ _ _ _ _ _ rfl Try.underlying24 Try.sizeOf5 hc2.1 hc2.2 rfl rfl rfl rfl) ?_
  refine AQ_nil ?_
  refine AOps_store1 _ _ _ _ _ _ (colD (p0.set ((impl_number p1 p2).toNat) (toByte p3))) _ rfl rfl rfl rfl rfl rfl rfl Try.sizeOf5 (by rw [colD_length]; omega) (colD_setE p0 ((impl_number p1 p2).toNat) (toByte p3)) ?_
  refine AOps_nil ?_
  cases h
  exact ⟨_, _, fun r a w h => ⟨r, h⟩, _, _, [], _, .nil, rfl, rfl, rfl, rfl, rfl⟩

-- loop.example/g01362/impl.made
def impl_made_l1 (p2 : Int → Int → Option (Int)) (x1 : Int) : Nat → Int → Col → Option (Col)
  | 0, _, _ => none
  | k1 + 1, x4, x5 => (if decide (x4 < x1) then (p2 x4 x1).bind fun r7 => (impl_Colouring_put x5 x4 x1 r7).bind fun r8 => impl_made_l1 p2 x1 k1 (w64 (x4 + 1)) r8 else some x5)
def impl_made_l0 (k : Nat) (p0 : Int) (p2 : Int → Int → Option (Int)) : Nat → Int → Col → Option (Col)
  | 0, _, _ => none
  | k0 + 1, x1, x2 => (if decide (x1 < p0) then (impl_made_l1 p2 x1 k 0 x2 : Option (Col)).bind fun s9 => impl_made_l0 k p0 p2 k0 (w64 (x1 + 1)) s9 else some x2)
def impl_made (k : Nat) (p0 : Int) (p1 : Int) (p2 : Int → Int → Option (Int)) : Option (Col) :=
  (impl_made_l0 k p0 p2 k 0 (⟨p0, p1, B136.zero⟩ : Col) : Option (Col)).bind fun s10 => some s10
set_option maxRecDepth 100000 in
theorem impl_made_ac (k : Nat) (p0 : Int) (p1 : Int) (p2 : Int → Int → Option (Int)) (g_p2 : FuncId) (c_p2 : List D) (hg_p2 : ∀ args w, (callFunc g_p2 args).run Try.prog w = .ok (.enter g_p2 args) w) (hf_p2 : ∀ (a0 : Int) (a1 : Int) (r : Int), p2 a0 a1 = some r → AC Try.prog g_p2 ([iV a0, iV a1] ++ c_p2.map AV.d) [] (fun res H' => res = [iV r] ∧ H' = [])) (r : Col) (h : impl_made k p0 p1 p2 = some r) : AC Try.prog 64 [iV p0, iV p1, .d (.clo g_p2 c_p2)] [] (fun res H' => res = [.d (.agg (colD r))] ∧ H' = []) := by
  refine AC_of_body true Try.func64 rfl Try.ntmps64 (rvs := [.cell 6 26]) rfl rfl (fun G hG => ?_)
  have hm : G.H.length = 0 := by rw [hG]; rfl
  have hz : zeroG G.H = true := by rw [hG]; rfl
  unfold impl_made at h
  refine ACode_seq (ACode_region ?_)
  refine AOps_alloc 6 _ _ (colD Col.zero) (zero_of Try.typeInfo26 rfl) (by rfl) rfl rfl rfl rfl ?_
  refine AOps_nil ?_
  refine ACode_seq (ACode_region ?_)
  refine AOps_q 10 _ rfl rfl rfl (QOp_move _ _ rfl rfl) ?_
  refine AOps_q 11 _ rfl rfl rfl (QOp_move _ _ rfl rfl) ?_
  refine AOps_q 12 _ rfl rfl rfl (QOp_build _ _ [_, _] [0, 1] [iD p0, iD p1] _ (colD Col.zero) (colD (⟨p0, p1, B136.zero⟩ : Col)) [(0, 1), (1, 1), (2, 136)] rfl rfl Try.underlying26 (zero_of Try.typeInfo26 rfl) (fun w => by simp [Try.sizeOf2, Try.sizeOf2, Try.sizeOf24]) rfl (by rfl) (by rfl) (allc (ok1 rfl) (allc (ok1 rfl) (fun _ h => nomatch h)))) ?_
  refine AOps_alloc 7 _ _ (colD Col.zero) (zero_of Try.typeInfo26 rfl) (by rfl) rfl rfl rfl rfl ?_
  refine AOps_store _ _ _ _ _ _ (colD _) _ _ rfl rfl rfl rfl rfl rfl rfl (colD_one _) (by rw [colD_length]; exact Try.sizeOf26) (by rw [colD_length, colD_length]; decide) (colD_whole _ _) ?_
  refine AOps_nil ?_
  obtain ⟨s10, hss10, hks10⟩ := bindO h
  clear h
  refine ACode_seqJ (fun E' H' => Weak 31 G E' H' [(6, .ptr 0 0), (7, .ptr 1 0)] [.box (colD Col.zero), .box (colD s10)]) ?_ ?_
  · have h := hss10
    clear hss10
    refine ACode_seq (ACode_region ?_)
    refine AOps_q 13 _ rfl rfl rfl (QOp_move _ _ rfl rfl) ?_
    refine AOps_q 14 _ rfl rfl rfl (QOp_move _ _ rfl rfl) ?_
    refine AOps_nil ?_
    refine ACode_block ?_
    refine ACode_loopW (fun k0 E H => ∃ (x1 : Int) (x2 : Col), E = [(2, .d (.clo g_p2 c_p2)), (6, .ptr 0 0), (7, .ptr 1 0), (13, iV p0), (14, iV x1)] ∧ H = [.box (colD Col.zero), .box (colD x2)] ∧ impl_made_l0 k p0 p2 k0 x1 x2 = some s10) k _ _ (Weak_keep 0 hm [2, 6, 7, 13, 14] [0, 1] _ _ rfl rfl rfl) ⟨_, _, rfl, rfl, h⟩ ?_
    clear h
    rintro k0 E H ⟨x1, x2, rfl, rfl, h⟩
    cases k0 with
    | zero => cases (show (none : Option (Col)) = some _ from h)
    | succ k0 =>
      rw [impl_made_l0] at h
      refine ACode_seq (ACode_region ?_)
      refine AOps_q 15 _ rfl rfl rfl (QOp_lss _ _ _ _ _ _ _ rfl rfl rfl) ?_
      refine AOps_nil ?_
      refine ACode_seq ?_
      refine ACode_cond _ rfl (fun hb3 => ?_) (fun hb3 => ?_)
      · have h := iteT hb3 h
        refine ACode_skip ?_
        obtain ⟨s9, hss9, hks9⟩ := bindO h
        clear h
        refine ACode_seqJ (fun E' H' => Weak 31 G E' H' [(2, .d (.clo g_p2 c_p2)), (6, .ptr 0 0), (7, .ptr 1 0), (13, iV p0), (14, iV x1)] [.box (colD Col.zero), .box (colD s9)]) ?_ ?_
        · have h := hss9
          clear hss9
          refine ACode_block ?_
          refine ACode_seq (ACode_region ?_)
          refine AOps_q 16 _ rfl rfl rfl (QOp_move _ _ rfl rfl) ?_
          refine AOps_q 8 _ rfl rfl rfl (QOp_assign _ _ rfl rfl) ?_
          refine AOps_nil ?_
          refine ACode_seq (ACode_region ?_)
          refine AOps_q 17 _ rfl rfl rfl (QOp_move _ _ rfl rfl) ?_
          refine AOps_q 18 _ rfl rfl rfl (QOp_move _ _ rfl rfl) ?_
          refine AOps_nil ?_
          refine ACode_block ?_
          refine ACode_loopW (fun k1 E H => ∃ (x4 : Int) (x5 : Col), E = [(2, .d (.clo g_p2 c_p2)), (6, .ptr 0 0), (7, .ptr 1 0), (8, iV x1), (13, iV p0), (14, iV x1), (17, iV x1), (18, iV x4)] ∧ H = [.box (colD Col.zero), .box (colD x5)] ∧ impl_made_l1 p2 x1 k1 x4 x5 = some s9) k _ _ (Weak_keep 0 hm [2, 6, 7, 8, 13, 14, 17, 18] [0, 1] _ _ rfl rfl rfl) ⟨_, _, rfl, rfl, h⟩ ?_
          clear h
          rintro k1 E H ⟨x4, x5, rfl, rfl, h⟩
          cases k1 with
          | zero => cases (show (none : Option (Col)) = some _ from h)
          | succ k1 =>
            rw [impl_made_l1] at h
            refine ACode_seq (ACode_region ?_)
            refine AOps_q 19 _ rfl rfl rfl (QOp_lss _ _ _ _ _ _ _ rfl rfl rfl) ?_
            refine AOps_nil ?_
            refine ACode_seq ?_
            refine ACode_cond _ rfl (fun hb6 => ?_) (fun hb6 => ?_)
            · have h := iteT hb6 h
              refine ACode_skip ?_
              refine ACode_seq ?_
              refine ACode_block ?_
              refine ACode_seq (ACode_region ?_)
              refine AOps_q 20 _ rfl rfl rfl (QOp_move _ _ rfl rfl) ?_
              refine AOps_q 9 _ rfl rfl rfl (QOp_assign _ _ rfl rfl) ?_
              refine AOps_nil ?_
              refine (ACode_region ?_)
              refine AOps_q 21 _ rfl rfl rfl (QOp_move _ _ rfl rfl) ?_
              refine AOps_q 22 _ rfl rfl rfl (QOp_move _ _ rfl rfl) ?_
              refine AOps_q 23 _ rfl rfl rfl (QOp_move _ _ rfl rfl) ?_
              refine AOps_q 24 _ rfl rfl rfl (QOp_move _ _ rfl rfl) ?_
              refine AOps_q 25 _ rfl rfl rfl (QOp_move _ _ rfl rfl) ?_
              obtain ⟨r7, hr7, h⟩ := bindO h
              refine AOps_call [] 26 _ _ _ _ _ _ _ _ _ _ rfl rfl rfl rfl rfl rfl rfl hg_p2 rfl (nodupB_sound _ rfl) rfl rfl (viewA_mapD _) (hf_p2 x4 x1 _ hr7) ?_
              rintro _ _ ⟨rfl, rfl⟩
              refine ⟨(fun _ h => nomatch h), (allc (trivial) (fun _ h => nomatch h)), AOps_as 26 (v' := iV r7) (H' := [.box (colD Col.zero), .box (colD x5)]) rfl rfl ?_⟩
              obtain ⟨r8, hr8, h⟩ := bindO h
              refine AOps_call [1] 27 _ _ _ _ _ _ _ _ _ _ rfl rfl rfl rfl rfl rfl rfl Try.call114 rfl (nodupB_sound _ rfl) rfl rfl rfl (impl_Colouring_put_ac x5 x4 x1 r7 _ hr8) ?_
              rintro _ _ ⟨rfl, rfl⟩
              refine ⟨(allc (fun _ _ => trivial) (fun _ h => nomatch h)), (fun _ h => nomatch h), AOps_as 27 (v' := .tup []) (H' := [.box (colD Col.zero), .box (colD r8)]) rfl rfl ?_⟩
              refine AOps_nil ?_
              refine (ACode_region ?_)
              refine AOps_q 28 _ rfl rfl rfl (QOp_add _ _ _ _ _ _ _ rfl rfl rfl) ?_
              refine AOps_q 18 _ rfl rfl rfl (QOp_move _ _ rfl rfl) ?_
              refine AOps_nil ?_
              exact ⟨k1, _, _, Nat.lt_succ_self _, Weak_keep 0 hm [2, 6, 7, 8, 13, 14, 17, 18] [0, 1] _ _ rfl rfl rfl, _, _, rfl, rfl, h⟩
            · have h := iteF hb6 h
              refine ACode_exit ?_
              cases h
              exact Weak_keep 0 hm [2, 6, 7, 13, 14] [0, 1] _ _ rfl rfl rfl
        intro E' H' hw
        refine ACode_weak hw ?_
        have h := hks9
        refine (ACode_region ?_)
        refine AOps_q 29 _ rfl rfl rfl (QOp_add _ _ _ _ _ _ _ rfl rfl rfl) ?_
        refine AOps_q 14 _ rfl rfl rfl (QOp_move _ _ rfl rfl) ?_
        refine AOps_nil ?_
        exact ⟨k0, _, _, Nat.lt_succ_self _, Weak_keep 0 hm [2, 6, 7, 13, 14] [0, 1] _ _ rfl rfl rfl, _, _, rfl, rfl, h⟩
      · have h := iteF hb3 h
        refine ACode_exit ?_
        cases h
        exact Weak_keep 0 hm [6, 7] [0, 1] _ _ rfl rfl rfl
  intro E' H' hw
  refine ACode_weak hw ?_
  have h := hks10
  refine ACode_seq (ACode_region ?_)
  refine AOps_q 30 _ rfl rfl rfl (QOp_loadN_ptr _ _ _ _ _ _ _ rfl Try.isAgg26 Try.sizeOf26 rfl rfl (colD_all _) (colD_length _)) ?_
  refine AOps_store _ _ _ _ _ _ (colD _) _ _ rfl rfl rfl rfl rfl rfl rfl (colD_one _) (by rw [colD_length]; exact Try.sizeOf26) (by rw [colD_length, colD_length]; decide) (colD_whole _ _) ?_
  refine AOps_nil ?_
  refine ACode_ret ?_
  cases h
  exact ⟨_, _, fun r a w h => ⟨r, h⟩, _, _, [], _, (.cons (ResV_agg _ _ _ _ _ _ Try.isAgg26 Try.sizeOf26 rfl rfl (colD_take _) (colD_length _)) .nil), rfl, rfl, rfl, rfl, rfl⟩

-- loop.example/g01362/impl.SequenceColouring$1
def impl_SequenceColouring_c1 (p0 : Int) (p1 : Int) (p2 : List Int) : Option (Int) :=
  (if 0 ≤ p0 ∧ p0 < (p2.length : Int) then (if 0 ≤ p1 ∧ p1 < (p2.length : Int) then (if decide ((p2.getD p0.toNat 0) < (p2.getD p1.toNat 0)) then some 0 else some 1) else none) else none)
set_option maxRecDepth 100000 in
theorem impl_SequenceColouring_c1_ac (p0 : Int) (p1 : Int) (p2 : List Int) (r : Int) (h : impl_SequenceColouring_c1 p0 p1 p2 = some r) : AC Try.prog 65 [iV p0, iV p1, .d (.pv ([.sl none (intsD p2)]) 0)] [] (fun res H' => res = [iV r] ∧ H' = []) := by
  refine AC_of_body true Try.func65 rfl Try.ntmps65 (rvs := [.tmp 5]) rfl rfl (fun G hG => ?_)
  have hm : G.H.length = 0 := by rw [hG]; rfl
  have hz : zeroG G.H = true := by rw [hG]; rfl
  unfold impl_SequenceColouring_c1 at h
  refine ACode_seq (ACode_region ?_)
  refine AOps_q 5 _ rfl rfl rfl (QOp_assign _ _ rfl rfl) ?_
  refine AOps_nil ?_
  refine ACode_seq ?_
  refine ACode_seq (ACode_quiet mixed (by kernel_rfl) ?_)
  refine AQ_q 6 _ rfl rfl rfl (QOp_load_pv _ _ _ _ _ rfl Try.isAgg29 rfl rfl) ?_
  refine AQ_q 7 _ rfl rfl rfl (QOp_move _ _ rfl rfl) ?_
  obtain ⟨hc1, h⟩ := guardO h
  refine AQ_q 8 _ rfl rfl rfl (QOp_indexAddr_sl _ _ _ _ _ _ _ _ rfl Try.underlying29 Try.sizeOf2 hc1.1 (by rw [intsD_length]; exact hc1.2) rfl rfl) ?_
  refine AQ_q 9 _ rfl rfl rfl (QOp_load_pv _ _ _ _ _ rfl Try.isAgg2 rfl (intsD_get _ _ 0 (by omega))) ?_
  refine AQ_q 10 _ rfl rfl rfl (QOp_load_pv _ _ _ _ _ rfl Try.isAgg29 rfl rfl) ?_
  refine AQ_q 11 _ rfl rfl rfl (QOp_move _ _ rfl rfl) ?_
  obtain ⟨hc2, h⟩ := guardO h
  refine AQ_q 12 _ rfl rfl rfl (QOp_indexAddr_sl _ _ _ _ _ _ _ _ rfl Try.underlying29 Try.sizeOf2 hc2.1 (by rw [intsD_length]; exact hc2.2) rfl rfl) ?_
  refine AQ_q 13 _ rfl rfl rfl (QOp_load_pv _ _ _ _ _ rfl Try.isAgg2 rfl (intsD_get _ _ 0 (by omega))) ?_
  refine AQ_q 14 _ rfl rfl rfl (QOp_lss _ _ _ _ _ _ _ rfl rfl rfl) ?_
  refine AQ_nil ?_
  refine ACode_cond _ rfl (fun hb3 => ?_) (fun hb3 => ?_)
  · have h := iteT hb3 h
    refine ACode_seq (ACode_region ?_)
    refine AOps_q 5 _ rfl rfl rfl (QOp_assign _ _ rfl rfl) ?_
    refine AOps_nil ?_
    refine ACode_ret ?_
    cases h
    exact ⟨_, _, fun r a w h => ⟨r, h⟩, _, _, [], _, (.cons (ResV_tmp _ _ rfl) .nil), rfl, rfl, rfl, rfl, rfl⟩
  · have h := iteF hb3 h
    refine ACode_skip ?_
    refine ACode_seq (ACode_region ?_)
    refine AOps_q 5 _ rfl rfl rfl (QOp_assign _ _ rfl rfl) ?_
    refine AOps_nil ?_
    refine ACode_ret ?_
    cases h
    exact ⟨_, _, fun r a w h => ⟨r, h⟩, _, _, [], _, (.cons (ResV_tmp _ _ rfl) .nil), rfl, rfl, rfl, rfl, rfl⟩

-- loop.example/g01362/impl.SequenceColouring
def impl_SequenceColouring_l0 (k : Nat) (p0 : List Int) : Nat → Int → Col → Option (Sum (Col) (Col × Int))
  | 0, _, _ => none
  | k0 + 1, x4, x5 => (if decide (x4 < (p0.length : Int)) then (if 0 ≤ x4 ∧ x4 < (p0.length : Int) then (if 0 ≤ 0 ∧ 0 ≤ x4 ∧ x4 ≤ (p0.length : Int) then (slices_Contains k ((p0.take x4.toNat).drop 0) (p0.getD x4.toNat 0)).bind fun r9 => (if r9 then some (.inr ((⟨0, 0, B136.zero⟩ : Col), 2)) else impl_SequenceColouring_l0 k p0 k0 (w64 (x4 + 1)) x5) else none) else none) else some (.inl x5))
def impl_SequenceColouring (k : Nat) (p0 : List Int) : Option (Col × Int) :=
  (if !(impl_in (impl_size p0) 1 17) then some ((⟨0, 0, B136.zero⟩ : Col), 2) else (impl_SequenceColouring_l0 k p0 k 0 Col.zero : Option (Sum (Col) (Col × Int))).bind fun os11 => (match os11 with | .inl s11 => (impl_made k (impl_size p0) 2 (fun a0 a1 => impl_SequenceColouring_c1 a0 a1 p0)).bind fun r12 => some (r12, 0) | .inr rr => some rr))
set_option maxRecDepth 100000 in
theorem impl_SequenceColouring_ac (k : Nat) (p0 : List Int) (r : Col × Int) (h : impl_SequenceColouring k p0 = some r) : AC Try.prog 16 [.d (.sl none (intsD p0))] [] (fun res H' => res = [.d (.agg (colD r.1)), iV r.2] ∧ H' = []) := by
  refine AC_of_body true Try.func16 rfl Try.ntmps16 (rvs := [.cell 2 26, .tmp 3]) rfl rfl (fun G hG => ?_)
  have hm : G.H.length = 0 := by rw [hG]; rfl
  have hz : zeroG G.H = true := by rw [hG]; rfl
  unfold impl_SequenceColouring at h
  refine ACode_seq (ACode_region ?_)
  refine AOps_boxI 1 _ _ (.sl none (intsD p0)) _ rfl (fun c hc => by cases hc with | head => rfl | tail _ h => cases h) rfl rfl rfl rfl rfl ?_
  refine AOps_alloc 2 _ _ (colD Col.zero) (zero_of Try.typeInfo26 rfl) (by rfl) rfl rfl rfl rfl ?_
  refine AOps_q 3 _ rfl rfl rfl (QOp_assign _ _ rfl rfl) ?_
  refine AOps_nil ?_
  refine ACode_seq (ACode_region ?_)
  refine AOps_q 7 _ rfl rfl rfl (QOp_load_pv _ _ _ _ _ rfl Try.isAgg29 rfl rfl) ?_
  refine AOps_call [] 8 _ _ _ _ _ _ _ _ _ _ rfl rfl rfl rfl rfl rfl rfl Try.call61 rfl (nodupB_sound _ rfl) rfl rfl rfl (impl_size_ac p0) ?_
  rintro _ _ ⟨rfl, rfl⟩
  refine ⟨(fun _ h => nomatch h), (allc (trivial) (fun _ h => nomatch h)), AOps_as 8 (v' := iV (impl_size p0)) (H' := [.box (colD Col.zero)]) rfl rfl ?_⟩
  refine AOps_q 4 _ rfl rfl rfl (QOp_assign _ _ rfl rfl) ?_
  refine AOps_nil ?_
  refine ACode_seq ?_
  refine ACode_seq (ACode_region ?_)
  refine AOps_q 9 _ rfl rfl rfl (QOp_move _ _ rfl rfl) ?_
  refine AOps_call [] 10 _ _ _ _ _ _ _ _ _ _ rfl rfl rfl rfl rfl rfl rfl Try.call62 rfl (nodupB_sound _ rfl) rfl rfl rfl (impl_in_ac (impl_size p0) 1 17) ?_
  rintro _ _ ⟨rfl, rfl⟩
  refine ⟨(fun _ h => nomatch h), (allc (trivial) (fun _ h => nomatch h)), AOps_as 10 (v' := bV (impl_in (impl_size p0) 1 17)) (H' := [.box (colD Col.zero)]) rfl rfl ?_⟩
  refine AOps_q 11 _ rfl rfl rfl (QOp_not _ _ _ rfl rfl) ?_
  refine AOps_nil ?_
  refine ACode_cond _ rfl (fun hb3 => ?_) (fun hb3 => ?_)
  · have h := iteT hb3 h
    refine ACode_seq (ACode_region ?_)
    refine AOps_q 12 _ rfl rfl rfl (QOp_build _ _ [] [] [] _ (colD Col.zero) (colD (⟨0, 0, B136.zero⟩ : Col)) [(0, 1), (1, 1), (2, 136)] rfl rfl Try.underlying26 (zero_of Try.typeInfo26 rfl) (fun w => by simp [Try.sizeOf2, Try.sizeOf2, Try.sizeOf24]) rfl (by rfl) (by rfl) (fun _ h => nomatch h)) ?_
    refine AOps_store _ _ _ _ _ _ (colD _) _ _ rfl rfl rfl rfl rfl rfl rfl (colD_one _) (by rw [colD_length]; exact Try.sizeOf26) (by rw [colD_length, colD_length]; decide) (colD_whole _ _) ?_
    refine AOps_q 3 _ rfl rfl rfl (QOp_assign _ _ rfl rfl) ?_
    refine AOps_nil ?_
    refine ACode_ret ?_
    cases h
    exact ⟨_, _, fun r a w h => ⟨r, h⟩, _, _, [], _, (.cons (ResV_agg _ _ _ _ _ _ Try.isAgg26 Try.sizeOf26 rfl rfl (colD_take _) (colD_length _)) (.cons (ResV_tmp _ _ rfl) .nil)), rfl, rfl, rfl, rfl, rfl⟩
  · have h := iteF hb3 h
    refine ACode_skip ?_
    obtain ⟨os11, hss11, hks11⟩ := bindO h
    clear h
    refine ACode_seqJ (fun E' H' => ∃ s11 : Col, os11 = .inl s11 ∧ Weak 30 G E' H' [(1, .d (.pv ([.sl none (intsD p0)]) 0)), (2, .ptr 0 0), (4, iV (impl_size p0))] [.box (colD s11)]) ?_ ?_
    · have h := hss11
      clear hss11
      refine ACode_seq (ACode_region ?_)
      refine AOps_q 13 _ rfl rfl rfl (QOp_load_pv _ _ _ _ _ rfl Try.isAgg29 rfl rfl) ?_
      refine AOps_q 14 _ rfl rfl rfl (QOp_len_sl _ _ _ _ _ _ _ (intsD_length _) rfl rfl rfl rfl Try.underlying29 rfl) ?_
      refine AOps_q 15 _ rfl rfl rfl (QOp_move _ _ rfl rfl) ?_
      refine AOps_nil ?_
      refine ACode_block ?_
      refine ACode_loopW (fun k0 E H => ∃ (x4 : Int) (x5 : Col), E = [(1, .d (.pv ([.sl none (intsD p0)]) 0)), (2, .ptr 0 0), (4, iV (impl_size p0)), (13, .d (.sl none (intsD p0))), (14, iV (p0.length : Int)), (15, iV x4)] ∧ H = [.box (colD x5)] ∧ impl_SequenceColouring_l0 k p0 k0 x4 x5 = some os11) k _ _ (Weak_keep 0 hm [1, 2, 4, 13, 14, 15] [0] _ _ rfl rfl rfl) ⟨_, _, rfl, rfl, h⟩ ?_
      clear h
      rintro k0 E H ⟨x4, x5, rfl, rfl, h⟩
      cases k0 with
      | zero => cases (show (none : Option (Sum (Col) (Col × Int))) = some _ from h)
      | succ k0 =>
        rw [impl_SequenceColouring_l0] at h
        refine ACode_seq (ACode_region ?_)
        refine AOps_q 16 _ rfl rfl rfl (QOp_lss _ _ _ _ _ _ _ rfl rfl rfl) ?_
        refine AOps_nil ?_
        refine ACode_seq ?_
        refine ACode_cond _ rfl (fun hb6 => ?_) (fun hb6 => ?_)
        · have h := iteT hb6 h
          refine ACode_skip ?_
          refine ACode_seq ?_
          refine ACode_block ?_
          refine ACode_seq (ACode_region ?_)
          refine AOps_q 17 _ rfl rfl rfl (QOp_move _ _ rfl rfl) ?_
          obtain ⟨hc7, h⟩ := guardO h
          refine AOps_q 18 _ rfl rfl rfl (QOp_indexAddr_sl _ _ _ _ _ _ _ _ rfl Try.underlying29 Try.sizeOf2 hc7.1 (by rw [intsD_length]; exact hc7.2) rfl rfl) ?_
          refine AOps_q 19 _ rfl rfl rfl (QOp_load_pv _ _ _ _ _ rfl Try.isAgg2 rfl (intsD_get _ _ 0 (by omega))) ?_
          refine AOps_q 5 _ rfl rfl rfl (QOp_assign _ _ rfl rfl) ?_
          refine AOps_q 6 _ rfl rfl rfl (QOp_assign _ _ rfl rfl) ?_
          refine AOps_nil ?_
          refine ACode_seq (ACode_region ?_)
          refine AOps_q 20 _ rfl rfl rfl (QOp_load_pv _ _ _ _ _ rfl Try.isAgg29 rfl rfl) ?_
          refine AOps_q 21 _ rfl rfl rfl (QOp_move _ _ rfl rfl) ?_
          obtain ⟨hc8, h⟩ := guardO h
          refine AOps_q 22 _ rfl rfl rfl (QOp_slice_sl _ _ _ _ _ _ _ _ (0) (x4.toNat) rfl Try.underlying29 Try.sizeOf2 rfl rfl ⟨_, by rw [Int.toNat_of_nonneg (by omega)]; rfl⟩ (by omega) (by rw [intsD_length]; omega) (intsD_part _ _ _)) ?_
          refine AOps_q 23 _ rfl rfl rfl (QOp_move _ _ rfl rfl) ?_
          obtain ⟨r9, hr9, h⟩ := bindO h
          refine AOps_call [] 24 _ _ _ _ _ _ _ _ _ _ rfl rfl rfl rfl rfl rfl rfl Try.call63 rfl (nodupB_sound _ rfl) rfl rfl rfl (slices_Contains_ac k ((p0.take x4.toNat).drop 0) (p0.getD x4.toNat 0) _ hr9) ?_
          rintro _ _ ⟨rfl, rfl⟩
          refine ⟨(fun _ h => nomatch h), (allc (trivial) (fun _ h => nomatch h)), AOps_as 24 (v' := bV r9) (H' := [.box (colD x5)]) rfl rfl ?_⟩
          refine AOps_nil ?_
          refine ACode_cond _ rfl (fun hb10 => ?_) (fun hb10 => ?_)
          · have h := iteT hb10 h
            refine ACode_seq (ACode_region ?_)
            refine AOps_q 25 _ rfl rfl rfl (QOp_build _ _ [] [] [] _ (colD Col.zero) (colD (⟨0, 0, B136.zero⟩ : Col)) [(0, 1), (1, 1), (2, 136)] rfl rfl Try.underlying26 (zero_of Try.typeInfo26 rfl) (fun w => by simp [Try.sizeOf2, Try.sizeOf2, Try.sizeOf24]) rfl (by rfl) (by rfl) (fun _ h => nomatch h)) ?_
            refine AOps_store _ _ _ _ _ _ (colD _) _ _ rfl rfl rfl rfl rfl rfl rfl (colD_one _) (by rw [colD_length]; exact Try.sizeOf26) (by rw [colD_length, colD_length]; decide) (colD_whole _ _) ?_
            refine AOps_q 3 _ rfl rfl rfl (QOp_assign _ _ rfl rfl) ?_
            refine AOps_nil ?_
            refine ACode_ret ?_
            cases h
            have h := hks11
            cases h
            exact ⟨_, _, fun r a w h => ⟨r, h⟩, _, _, [], _, (.cons (ResV_agg _ _ _ _ _ _ Try.isAgg26 Try.sizeOf26 rfl rfl (colD_take _) (colD_length _)) (.cons (ResV_tmp _ _ rfl) .nil)), rfl, rfl, rfl, rfl, rfl⟩
          · have h := iteF hb10 h
            refine ACode_skip ?_
            refine (ACode_region ?_)
            refine AOps_q 26 _ rfl rfl rfl (QOp_add _ _ _ _ _ _ _ rfl rfl rfl) ?_
            refine AOps_q 15 _ rfl rfl rfl (QOp_move _ _ rfl rfl) ?_
            refine AOps_nil ?_
            exact ⟨k0, _, _, Nat.lt_succ_self _, Weak_keep 0 hm [1, 2, 4, 13, 14, 15] [0] _ _ rfl rfl rfl, _, _, rfl, rfl, h⟩
        · have h := iteF hb6 h
          refine ACode_exit ?_
          cases h
          exact ⟨_, rfl, Weak_keep 0 hm [1, 2, 4] [0] _ _ rfl rfl rfl⟩
    rintro E' H' ⟨s11, rfl, hw⟩
    refine ACode_weak hw ?_
    have h := hks11
    refine ACode_seq (ACode_region ?_)
    refine AOps_q 27 _ rfl rfl rfl (QOp_move _ _ rfl rfl) ?_
    refine AOps_q 28 _ rfl rfl rfl (QOp_makeFuncD _ _ _ _ rfl rfl rfl) ?_
    obtain ⟨r12, hr12, h⟩ := bindO h
    refine AOps_call [] 29 _ _ _ _ _ _ _ _ _ _ rfl rfl rfl rfl rfl rfl rfl Try.call64 rfl (nodupB_sound _ rfl) rfl rfl rfl (impl_made_ac k (impl_size p0) 2 (fun a0 a1 => impl_SequenceColouring_c1 a0 a1 p0) 65 ([.pv ([.sl none (intsD p0)]) 0]) Try.call65 (fun a0 a1 r h => impl_SequenceColouring_c1_ac a0 a1 p0 r h) _ hr12) ?_
    rintro _ _ ⟨rfl, rfl⟩
    refine ⟨(fun _ h => nomatch h), (allc (trivial) (fun _ h => nomatch h)), AOps_as 29 (v' := .d (.agg (colD r12))) (H' := [.box (colD s11)]) rfl rfl ?_⟩
    refine AOps_store _ _ _ _ _ _ (colD _) _ _ rfl rfl rfl rfl rfl rfl rfl (colD_one _) (by rw [colD_length]; exact Try.sizeOf26) (by rw [colD_length, colD_length]; decide) (colD_whole _ _) ?_
    refine AOps_q 3 _ rfl rfl rfl (QOp_assign _ _ rfl rfl) ?_
    refine AOps_nil ?_
    refine ACode_ret ?_
    cases h
    exact ⟨_, _, fun r a w h => ⟨r, h⟩, _, _, [], _, (.cons (ResV_agg _ _ _ _ _ _ Try.isAgg26 Try.sizeOf26 rfl rfl (colD_take _) (colD_length _)) (.cons (ResV_tmp _ _ rfl) .nil)), rfl, rfl, rfl, rfl, rfl⟩

-- loop.example/g01362/spec.DrawOrderOf
def spec_DrawOrderOf (k : Nat) (p0 : List UInt8) : Option (Col) :=
  (spec_l10With k p0).bind fun r1 => some r1.1
set_option maxRecDepth 100000 in
theorem spec_DrawOrderOf_ac (k : Nat) (p0 : List UInt8) (r : Col) (h : spec_DrawOrderOf k p0 = some r) : AC Try.prog 18 [.d (.sl none (bysD p0))] [] (fun res H' => res = [.d (.agg (colD r))] ∧ H' = []) := by
  refine AC_of_body true Try.func18 rfl Try.ntmps18 (rvs := [.cell 2 26]) rfl rfl (fun G hG => ?_)
  have hm : G.H.length = 0 := by rw [hG]; rfl
  have hz : zeroG G.H = true := by rw [hG]; rfl
  unfold spec_DrawOrderOf at h
  refine ACode_seq (ACode_region ?_)
  refine AOps_alloc 2 _ _ (colD Col.zero) (zero_of Try.typeInfo26 rfl) (by rfl) rfl rfl rfl rfl ?_
  refine AOps_nil ?_
  refine ACode_seq (ACode_region ?_)
  refine AOps_q 6 _ rfl rfl rfl (QOp_move _ _ rfl rfl) ?_
  obtain ⟨r1, hr1, h⟩ := bindO h
  refine AOps_call [] 7 _ _ _ _ _ _ _ _ _ _ rfl rfl rfl rfl rfl rfl rfl Try.call47 rfl (nodupB_sound _ rfl) rfl rfl rfl (spec_l10With_ac k p0 _ hr1) ?_
  rintro _ _ ⟨rfl, rfl⟩
  refine ⟨(fun _ h => nomatch h), (allc (trivial) (allc (trivial) (fun _ h => nomatch h))), AOps_as 7 (v' := .tup [.d (.agg (colD r1.1)), iV r1.2]) (H' := [.box (colD Col.zero)]) rfl rfl ?_⟩
  refine AOps_q 5 _ rfl rfl rfl (QOp_move _ _ rfl rfl) ?_
  refine AOps_q 8 _ rfl rfl rfl (QOp_extract _ _ _ _ rfl rfl rfl) ?_
  refine AOps_q 9 _ rfl rfl rfl (QOp_extract _ _ _ _ rfl rfl rfl) ?_
  refine AOps_alloc 3 _ _ (colD Col.zero) (zero_of Try.typeInfo26 rfl) (by rfl) rfl rfl rfl rfl ?_
  refine AOps_store _ _ _ _ _ _ (colD _) _ _ rfl rfl rfl rfl rfl rfl rfl (colD_one _) (by rw [colD_length]; exact Try.sizeOf26) (by rw [colD_length, colD_length]; decide) (colD_whole _ _) ?_
  refine AOps_q 4 _ rfl rfl rfl (QOp_assign _ _ rfl rfl) ?_
  refine AOps_nil ?_
  refine ACode_seq (ACode_region ?_)
  refine AOps_q 10 _ rfl rfl rfl (QOp_loadN_ptr _ _ _ _ _ _ _ rfl Try.isAgg26 Try.sizeOf26 rfl rfl (colD_all _) (colD_length _)) ?_
  refine AOps_store _ _ _ _ _ _ (colD _) _ _ rfl rfl rfl rfl rfl rfl rfl (colD_one _) (by rw [colD_length]; exact Try.sizeOf26) (by rw [colD_length, colD_length]; decide) (colD_whole _ _) ?_
  refine AOps_nil ?_
  refine ACode_ret ?_
  cases h
  exact ⟨_, _, fun r a w h => ⟨r, h⟩, _, _, [], _, (.cons (ResV_agg _ _ _ _ _ _ Try.isAgg26 Try.sizeOf26 rfl rfl (colD_take _) (colD_length _)) .nil), rfl, rfl, rfl, rfl, rfl⟩

-- loop.example/g01362/impl.always
def impl_always : Bool :=
  true
set_option maxRecDepth 100000 in
theorem impl_always_ac : AC Try.prog 69 [] [] (fun res H' => res = [bV (impl_always)] ∧ H' = []) := by
  refine AC_of_body true Try.func69 rfl Try.ntmps69 (rvs := [.tmp 0]) rfl rfl (fun G hG => ?_)
  have hm : G.H.length = 0 := by rw [hG]; rfl
  have hz : zeroG G.H = true := by rw [hG]; rfl
  obtain ⟨r, h⟩ : ∃ r, impl_always = r := ⟨_, rfl⟩
  rw [h]
  unfold impl_always at h
  refine ACode_seq (ACode_region ?_)
  refine AOps_q 0 _ rfl rfl rfl (QOp_assign _ _ rfl rfl) ?_
  refine AOps_nil ?_
  refine ACode_seq (ACode_region ?_)
  refine AOps_q 0 _ rfl rfl rfl (QOp_assign _ _ rfl rfl) ?_
  refine AOps_nil ?_
  refine ACode_ret ?_
  cases h
  exact ⟨_, _, fun r a w h => ⟨r, h⟩, _, _, [], _, (.cons (ResV_tmp _ _ rfl) .nil), rfl, rfl, rfl, rfl, rfl⟩

-- (*loop.example/g01362/impl.Colouring).that
def impl_Colouring_that_l0 (p0 : Col) (p1 : Int → Option (Bool)) : Nat → Int → (List Int) → Option (List Int)
  | 0, _, _ => none
  | k0 + 1, x1, x2 => (if decide (x1 < p0.p) then ((p1 x1).bind fun r4 => (if r4 then (if x2.length + ([x1]).length ≤ 1099511627776 then some (x2 ++ ([x1])) else none) else some x2) : Option (List Int)).bind fun s7 => impl_Colouring_that_l0 p0 p1 k0 (w64 (x1 + 1)) s7 else some x2)
def impl_Colouring_that (k : Nat) (p0 : Col) (p1 : Int → Option (Bool)) : Option (List Int) :=
  (impl_Colouring_that_l0 p0 p1 k 0 ([] : List Int) : Option (List Int)).bind fun s8 => some s8
set_option maxRecDepth 100000 in
theorem impl_Colouring_that_ac (k : Nat) (p0 : Col) (p1 : Int → Option (Bool)) (g_p1 : FuncId) (c_p1 : List D) (hg_p1 : ∀ args w, (callFunc g_p1 args).run Try.prog w = .ok (.enter g_p1 args) w) (hf_p1 : ∀ (a0 : Int) (r : Bool), p1 a0 = some r → AC Try.prog g_p1 ([iV a0] ++ c_p1.map AV.d) [] (fun res H' => res = [bV r] ∧ H' = [])) (r : List Int) (h : impl_Colouring_that k p0 p1 = some r) : AC Try.prog 70 [.d (.pv (colD p0) 0), .d (.clo g_p1 c_p1)] [] (fun res H' => res = [.vec 0 0] ∧ H' = [.vec 0 (intsD r)]) := by
  refine AC_of_body true Try.func70 rfl Try.ntmps70 (rvs := [.tmp 4]) rfl rfl (fun G hG => ?_)
  have hm : G.H.length = 0 := by rw [hG]; rfl
  have hz : zeroG G.H = true := by rw [hG]; rfl
  unfold impl_Colouring_that at h
  refine ACode_seq (ACode_region ?_)
  refine AOps_q 4 _ rfl rfl rfl (QOp_assign _ _ rfl rfl) ?_
  refine AOps_nil ?_
  refine ACode_seq (ACode_region ?_)
  refine AOps_buildSlice 7 _ _ _ [] (intsD ([] : List Int)) _ rfl rfl rfl rfl rfl (by decide) Try.underlying29 Try.sizeOf2 (zero_of Try.typeInfo2 rfl) rfl rfl (intsD_one _) ?_
  refine AOps_q 5 _ rfl rfl rfl (QOp_assign _ _ rfl rfl) ?_
  refine AOps_nil ?_
  obtain ⟨s8, hss8, hks8⟩ := bindO h
  clear h
  refine ACode_seqJ (fun E' H' => Weak 24 G E' H' [(5, .vec 0 0)] [.vec 0 (intsD s8)]) ?_ ?_
  · have h := hss8
    clear hss8
    refine ACode_seq (ACode_region ?_)
    refine AOps_q 8 _ rfl rfl rfl (QOp_move _ _ rfl rfl) ?_
    refine AOps_q 9 _ rfl rfl rfl (QOp_nilCheck_pv _ _ _ rfl rfl) ?_
    refine AOps_q 10 _ rfl rfl rfl (QOp_fieldAddr_pv _ _ _ _ _ 0 _ _ rfl Try.underlying26 rfl _ Try.sizeOf2 rfl rfl) ?_
    refine AOps_q 11 _ rfl rfl rfl (QOp_load_pv _ _ _ _ _ rfl Try.isAgg2 rfl rfl) ?_
    refine AOps_q 12 _ rfl rfl rfl (QOp_move _ _ rfl rfl) ?_
    refine AOps_nil ?_
    refine ACode_block ?_
    refine ACode_loopW (fun k0 E H => ∃ (x1 : Int) (x2 : List Int), E = [(1, .d (.clo g_p1 c_p1)), (5, .vec 0 0), (11, iV p0.p), (12, iV x1)] ∧ H = [.vec 0 (intsD x2)] ∧ impl_Colouring_that_l0 p0 p1 k0 x1 x2 = some s8) k _ _ (Weak_keep 0 hm [1, 5, 11, 12] [0] _ _ rfl rfl rfl) ⟨_, _, rfl, rfl, h⟩ ?_
    clear h
    rintro k0 E H ⟨x1, x2, rfl, rfl, h⟩
    cases k0 with
    | zero => cases (show (none : Option (List Int)) = some _ from h)
    | succ k0 =>
      rw [impl_Colouring_that_l0] at h
      refine ACode_seq (ACode_region ?_)
      refine AOps_q 13 _ rfl rfl rfl (QOp_lss _ _ _ _ _ _ _ rfl rfl rfl) ?_
      refine AOps_nil ?_
      refine ACode_seq ?_
      refine ACode_cond _ rfl (fun hb3 => ?_) (fun hb3 => ?_)
      · have h := iteT hb3 h
        refine ACode_skip ?_
        obtain ⟨s7, hss7, hks7⟩ := bindO h
        clear h
        refine ACode_seqJ (fun E' H' => Weak 24 G E' H' [(1, .d (.clo g_p1 c_p1)), (5, .vec 0 0), (11, iV p0.p), (12, iV x1)] [.vec 0 (intsD s7)]) ?_ ?_
        · have h := hss7
          clear hss7
          refine ACode_block ?_
          refine ACode_seq (ACode_region ?_)
          refine AOps_q 14 _ rfl rfl rfl (QOp_move _ _ rfl rfl) ?_
          refine AOps_q 6 _ rfl rfl rfl (QOp_assign _ _ rfl rfl) ?_
          refine AOps_nil ?_
          refine ACode_seq (ACode_region ?_)
          refine AOps_q 15 _ rfl rfl rfl (QOp_move _ _ rfl rfl) ?_
          refine AOps_q 16 _ rfl rfl rfl (QOp_move _ _ rfl rfl) ?_
          obtain ⟨r4, hr4, h⟩ := bindO h
          refine AOps_call [] 17 _ _ _ _ _ _ _ _ _ _ rfl rfl rfl rfl rfl rfl rfl hg_p1 rfl (nodupB_sound _ rfl) rfl rfl (viewA_mapD _) (hf_p1 x1 _ hr4) ?_
          rintro _ _ ⟨rfl, rfl⟩
          refine ⟨(fun _ h => nomatch h), (allc (trivial) (fun _ h => nomatch h)), AOps_as 17 (v' := bV r4) (H' := [.vec 0 (intsD x2)]) rfl rfl ?_⟩
          refine AOps_nil ?_
          refine ACode_cond _ rfl (fun hb5 => ?_) (fun hb5 => ?_)
          · have h := iteT hb5 h
            refine (ACode_region ?_)
            refine AOps_q 18 _ rfl rfl rfl (QOp_move _ _ rfl rfl) ?_
            refine AOps_q 19 _ rfl rfl rfl (QOp_move _ _ rfl rfl) ?_
            refine AOps_buildSlice 20 _ _ _ [_] (intsD ([x1])) _ rfl rfl rfl rfl rfl (by decide) Try.underlying29 Try.sizeOf2 (zero_of Try.typeInfo2 rfl) rfl rfl (intsD_one _) ?_
            obtain ⟨hc6, h⟩ := guardO h
            refine AOps_append 21 _ _ _ _ _ _ _ _ _ _ _ _ rfl rfl rfl rfl rfl rfl rfl Try.underlying29 Try.type2 rfl rfl rfl (by decide) rfl rfl rfl rfl (intsD_one _) (by rw [intsD_length, intsD_length]; exact hc6) ?_
            rw [intsD_app]
            refine AOps_q 5 _ rfl rfl rfl (QOp_assign _ _ rfl rfl) ?_
            refine AOps_nil ?_
            cases h
            exact Weak_trans (Weak_keep 0 hm [1, 5, 11, 12] [0] _ _ rfl rfl rfl) (Weak_reset 0 hm hz [1, 5, 11, 12] _ _ rfl rfl)
          · have h := iteF hb5 h
            refine ACode_skip ?_
            cases h
            exact Weak_keep 0 hm [1, 5, 11, 12] [0] _ _ rfl rfl rfl
        intro E' H' hw
        refine ACode_weak hw ?_
        have h := hks7
        refine (ACode_region ?_)
        refine AOps_q 22 _ rfl rfl rfl (QOp_add _ _ _ _ _ _ _ rfl rfl rfl) ?_
        refine AOps_q 12 _ rfl rfl rfl (QOp_move _ _ rfl rfl) ?_
        refine AOps_nil ?_
        exact ⟨k0, _, _, Nat.lt_succ_self _, Weak_keep 0 hm [1, 5, 11, 12] [0] _ _ rfl rfl rfl, _, _, rfl, rfl, h⟩
      · have h := iteF hb3 h
        refine ACode_exit ?_
        cases h
        exact Weak_keep 0 hm [5] [0] _ _ rfl rfl rfl
  intro E' H' hw
  refine ACode_weak hw ?_
  have h := hks8
  refine ACode_seq (ACode_region ?_)
  refine AOps_q 23 _ rfl rfl rfl (QOp_move _ _ rfl rfl) ?_
  refine AOps_q 4 _ rfl rfl rfl (QOp_assign _ _ rfl rfl) ?_
  refine AOps_nil ?_
  refine ACode_ret ?_
  cases h
  exact ⟨_, _, Weak_reset 0 hm hz [4] _ _ rfl rfl, _, _, [0], _, (.cons (ResV_tmp _ _ rfl) .nil), rfl, rfl, rfl, rfl, rfl⟩

-- loop.example/g01362/impl.OrderOf$1
def impl_OrderOf_c1 (p0 : Int) (p1 : Int) (p2 : Col) : Option (Bool) :=
  ((if decide (p0 < p1) then (impl_Colouring_at p2 p1 p0).bind fun r2 => (if decide (r2 = 0) then some true else (if decide (p1 < p0) then (impl_Colouring_at p2 p1 p0).bind fun r5 => some (decide (r5 = 1)) else some false)) else (if decide (p1 < p0) then (impl_Colouring_at p2 p1 p0).bind fun r7 => some (decide (r7 = 1)) else some false)) : Option (Bool)).bind fun s8 => some s8
set_option maxRecDepth 100000 in
theorem impl_OrderOf_c1_ac (p0 : Int) (p1 : Int) (p2 : Col) (r : Bool) (h : impl_OrderOf_c1 p0 p1 p2 = some r) : AC Try.prog 71 [iV p0, .d (.pv ([iD p1]) 0), .d (.pv (colD p2) 0)] [] (fun res H' => res = [bV r] ∧ H' = []) := by
  refine AC_of_body true Try.func71 rfl Try.ntmps71 (rvs := [.tmp 4]) rfl rfl (fun G hG => ?_)
  have hm : G.H.length = 0 := by rw [hG]; rfl
  have hz : zeroG G.H = true := by rw [hG]; rfl
  unfold impl_OrderOf_c1 at h
  refine ACode_seq (ACode_region ?_)
  refine AOps_q 4 _ rfl rfl rfl (QOp_assign _ _ rfl rfl) ?_
  refine AOps_nil ?_
  obtain ⟨s8, hss8, hks8⟩ := bindO h
  clear h
  refine ACode_seqJ (fun E' H' => Weak 25 G E' H' [(4, bV s8)] []) ?_ ?_
  · have h := hss8
    clear hss8
    refine (ACode_region ?_)
    refine AOps_q 5 _ rfl rfl rfl (QOp_move _ _ rfl rfl) ?_
    refine AOps_q 6 _ rfl rfl rfl (QOp_load_pv _ _ _ _ _ rfl Try.isAgg2 rfl rfl) ?_
    refine AOps_q 7 _ rfl rfl rfl (QOp_lss _ _ _ _ _ _ _ rfl rfl rfl) ?_
    refine AOps_q 8 _ rfl rfl rfl (QOp_move _ _ rfl rfl) ?_
    refine AOps_case 8 _ rfl (fun hb1 => ?_) (fun hb1 => ?_)
    · have h := iteT hb1 h
      refine AOps_q 9 _ rfl rfl rfl (QOp_load_pv _ _ _ _ _ rfl Try.isAgg2 rfl rfl) ?_
      refine AOps_q 10 _ rfl rfl rfl (QOp_move _ _ rfl rfl) ?_
      obtain ⟨r2, hr2, h⟩ := bindO h
      refine AOps_call [] 11 _ _ _ _ _ _ _ _ _ _ rfl rfl rfl rfl rfl rfl rfl Try.call51 rfl (nodupB_sound _ rfl) rfl rfl rfl (impl_Colouring_at_ac p2 p1 p0 _ hr2) ?_
      rintro _ _ ⟨rfl, rfl⟩
      refine ⟨(fun _ h => nomatch h), (allc (trivial) (fun _ h => nomatch h)), AOps_as 11 (v' := iV r2) (H' := []) rfl rfl ?_⟩
      refine AOps_q 12 _ rfl rfl rfl (QOp_eql _ _ _ _ _ _ _ rfl rfl rfl) ?_
      refine AOps_q 13 _ rfl rfl rfl (QOp_pick_t _ _ _ _ rfl rfl rfl) ?_
      refine AOps_q 14 _ rfl rfl rfl (QOp_move _ _ rfl rfl) ?_
      refine AOps_case 14 _ rfl (fun hb3 => ?_) (fun hb3 => ?_)
      · have h := iteT hb3 h
        refine AOps_skip 15 rfl rfl rfl ?_
        refine AOps_skip 16 rfl rfl rfl ?_
        refine AOps_skip 17 rfl rfl rfl ?_
        refine AOps_skip 18 rfl rfl rfl ?_
        refine AOps_skip 19 rfl rfl rfl ?_
        refine AOps_skip 20 rfl rfl rfl ?_
        refine AOps_skip 21 rfl rfl rfl ?_
        refine AOps_skip 22 rfl rfl rfl ?_
        refine AOps_skip 23 rfl rfl rfl ?_
        refine AOps_q 24 _ rfl rfl rfl (QOp_pick_t _ _ _ _ rfl rfl rfl) ?_
        refine AOps_q 4 _ rfl rfl rfl (QOp_assign _ _ rfl rfl) ?_
        refine AOps_nil ?_
        cases h
        exact Weak_keep 0 hm [4] [] _ _ rfl rfl rfl
      · have h := iteF hb3 h
        refine AOps_q 15 _ rfl rfl rfl (QOp_move _ _ rfl rfl) ?_
        refine AOps_q 16 _ rfl rfl rfl (QOp_load_pv _ _ _ _ _ rfl Try.isAgg2 rfl rfl) ?_
        refine AOps_q 17 _ rfl rfl rfl (QOp_gtr _ _ _ _ _ _ _ rfl rfl rfl) ?_
        refine AOps_q 18 _ rfl rfl rfl (QOp_move _ _ rfl rfl) ?_
        refine AOps_case 18 _ rfl (fun hb4 => ?_) (fun hb4 => ?_)
        · have h := iteT hb4 h
          refine AOps_q 19 _ rfl rfl rfl (QOp_load_pv _ _ _ _ _ rfl Try.isAgg2 rfl rfl) ?_
          refine AOps_q 20 _ rfl rfl rfl (QOp_move _ _ rfl rfl) ?_
          obtain ⟨r5, hr5, h⟩ := bindO h
          refine AOps_call [] 21 _ _ _ _ _ _ _ _ _ _ rfl rfl rfl rfl rfl rfl rfl Try.call51 rfl (nodupB_sound _ rfl) rfl rfl rfl (impl_Colouring_at_ac p2 p1 p0 _ hr5) ?_
          rintro _ _ ⟨rfl, rfl⟩
          refine ⟨(fun _ h => nomatch h), (allc (trivial) (fun _ h => nomatch h)), AOps_as 21 (v' := iV r5) (H' := []) rfl rfl ?_⟩
          refine AOps_q 22 _ rfl rfl rfl (QOp_eql _ _ _ _ _ _ _ rfl rfl rfl) ?_
          refine AOps_q 23 _ rfl rfl rfl (QOp_pick_t _ _ _ _ rfl rfl rfl) ?_
          refine AOps_q 24 _ rfl rfl rfl (QOp_pick_f _ _ _ _ rfl rfl rfl) ?_
          refine AOps_q 4 _ rfl rfl rfl (QOp_assign _ _ rfl rfl) ?_
          refine AOps_nil ?_
          cases h
          exact Weak_keep 0 hm [4] [] _ _ rfl rfl rfl
        · have h := iteF hb4 h
          refine AOps_skip 19 rfl rfl rfl ?_
          refine AOps_skip 20 rfl rfl rfl ?_
          refine AOps_skip 21 rfl rfl rfl ?_
          refine AOps_skip 22 rfl rfl rfl ?_
          refine AOps_q 23 _ rfl rfl rfl (QOp_pick_f _ _ _ _ rfl rfl rfl) ?_
          refine AOps_q 24 _ rfl rfl rfl (QOp_pick_f _ _ _ _ rfl rfl rfl) ?_
          refine AOps_q 4 _ rfl rfl rfl (QOp_assign _ _ rfl rfl) ?_
          refine AOps_nil ?_
          cases h
          exact Weak_keep 0 hm [4] [] _ _ rfl rfl rfl
    · have h := iteF hb1 h
      refine AOps_skip 9 rfl rfl rfl ?_
      refine AOps_skip 10 rfl rfl rfl ?_
      refine AOps_skip 11 rfl rfl rfl ?_
      refine AOps_skip 12 rfl rfl rfl ?_
      refine AOps_q 13 _ rfl rfl rfl (QOp_pick_f _ _ _ _ rfl rfl rfl) ?_
      refine AOps_q 14 _ rfl rfl rfl (QOp_move _ _ rfl rfl) ?_
      refine AOps_q 15 _ rfl rfl rfl (QOp_move _ _ rfl rfl) ?_
      refine AOps_q 16 _ rfl rfl rfl (QOp_load_pv _ _ _ _ _ rfl Try.isAgg2 rfl rfl) ?_
      refine AOps_q 17 _ rfl rfl rfl (QOp_gtr _ _ _ _ _ _ _ rfl rfl rfl) ?_
      refine AOps_q 18 _ rfl rfl rfl (QOp_move _ _ rfl rfl) ?_
      refine AOps_case 18 _ rfl (fun hb6 => ?_) (fun hb6 => ?_)
      · have h := iteT hb6 h
        refine AOps_q 19 _ rfl rfl rfl (QOp_load_pv _ _ _ _ _ rfl Try.isAgg2 rfl rfl) ?_
        refine AOps_q 20 _ rfl rfl rfl (QOp_move _ _ rfl rfl) ?_
        obtain ⟨r7, hr7, h⟩ := bindO h
        refine AOps_call [] 21 _ _ _ _ _ _ _ _ _ _ rfl rfl rfl rfl rfl rfl rfl Try.call51 rfl (nodupB_sound _ rfl) rfl rfl rfl (impl_Colouring_at_ac p2 p1 p0 _ hr7) ?_
        rintro _ _ ⟨rfl, rfl⟩
        refine ⟨(fun _ h => nomatch h), (allc (trivial) (fun _ h => nomatch h)), AOps_as 21 (v' := iV r7) (H' := []) rfl rfl ?_⟩
        refine AOps_q 22 _ rfl rfl rfl (QOp_eql _ _ _ _ _ _ _ rfl rfl rfl) ?_
        refine AOps_q 23 _ rfl rfl rfl (QOp_pick_t _ _ _ _ rfl rfl rfl) ?_
        refine AOps_q 24 _ rfl rfl rfl (QOp_pick_f _ _ _ _ rfl rfl rfl) ?_
        refine AOps_q 4 _ rfl rfl rfl (QOp_assign _ _ rfl rfl) ?_
        refine AOps_nil ?_
        cases h
        exact Weak_keep 0 hm [4] [] _ _ rfl rfl rfl
      · have h := iteF hb6 h
        refine AOps_skip 19 rfl rfl rfl ?_
        refine AOps_skip 20 rfl rfl rfl ?_
        refine AOps_skip 21 rfl rfl rfl ?_
        refine AOps_skip 22 rfl rfl rfl ?_
        refine AOps_q 23 _ rfl rfl rfl (QOp_pick_f _ _ _ _ rfl rfl rfl) ?_
        refine AOps_q 24 _ rfl rfl rfl (QOp_pick_f _ _ _ _ rfl rfl rfl) ?_
        refine AOps_q 4 _ rfl rfl rfl (QOp_assign _ _ rfl rfl) ?_
        refine AOps_nil ?_
        cases h
        exact Weak_keep 0 hm [4] [] _ _ rfl rfl rfl
  intro E' H' hw
  refine ACode_weak hw ?_
  have h := hks8
  refine ACode_ret ?_
  cases h
  exact ⟨_, _, fun r a w h => ⟨r, h⟩, _, _, [], _, (.cons (ResV_tmp _ _ rfl) .nil), rfl, rfl, rfl, rfl, rfl⟩

-- loop.example/g01362/impl.OrderOf
def impl_OrderOf_l0 (k : Nat) (p0 : Col) : Nat → Int → (List Int) → Option (List Int)
  | 0, _, _ => none
  | k0 + 1, x10, x11 => (if decide (x10 < p0.p) then (impl_Colouring_that k p0 (fun a0 => impl_OrderOf_c1 a0 x10 p0)).bind fun r13 => (if x11.length + ([(impl_size r13)]).length ≤ 1099511627776 then impl_OrderOf_l0 k p0 k0 (w64 (x10 + 1)) (x11 ++ ([(impl_size r13)])) else none) else some x11)
def impl_OrderOf (k : Nat) (p0 : Col) : Option (Option (List Int) × Int) :=
  (impl_Colouring_code k p0 (some (impl_always))).bind fun r1 => (if !decide (r1 = 0) then some (none, r1) else (((if !decide (p0.k = 2) then some true else (impl_Colouring_isClosedColour k p0 0).bind fun r4 => (if !r4 then some true else (impl_Colouring_isClosedColour k p0 1).bind fun r6 => some (!r6))) : Option (Bool)).bind fun s7 => (if s7 then some (.inr (none, 5)) else some (.inl ())) : Option (Sum (Unit) (Option (List Int) × Int))).bind fun os9 => (match os9 with | .inl s9 => (impl_OrderOf_l0 k p0 k 0 ([] : List Int) : Option (List Int)).bind fun s16 => some (some s16, 0) | .inr rr => some rr))
set_option maxRecDepth 100000 in
theorem impl_OrderOf_ac (k : Nat) (p0 : Col) (r : Option (List Int) × Int) (h : impl_OrderOf k p0 = some r) : AC Try.prog 19 [.d (.agg (colD p0))] [] (fun res H' => res = [ownA 0 (r.1.map intsD), iV r.2] ∧ H' = [] ++ ownH (r.1.map intsD)) := by
  refine AC_of_body false Try.func19 rfl Try.ntmps19 (rvs := [.tmp 2, .tmp 3]) rfl rfl (fun G hG => ?_)
  have hm : G.H.length = 0 := by rw [hG]; rfl
  have hz : zeroG G.H = true := by rw [hG]; rfl
  unfold impl_OrderOf at h
  refine ACode_seq (ACode_region ?_)
  refine AOps_boxI 1 _ _ (.agg (colD p0)) (colD p0) rfl (colD_one _) rfl rfl rfl rfl rfl ?_
  refine AOps_q 2 _ rfl rfl rfl (QOp_assign _ _ rfl rfl) ?_
  refine AOps_q 3 _ rfl rfl rfl (QOp_assign _ _ rfl rfl) ?_
  refine AOps_nil ?_
  refine ACode_seq ?_
  refine ACode_seq (ACode_region ?_)
  obtain ⟨r1, hr1, h⟩ := bindO h
  refine AOps_call [] 7 _ _ _ _ _ _ _ _ _ _ rfl rfl rfl rfl rfl rfl rfl Try.call68 rfl (nodupB_sound _ rfl) rfl rfl rfl (impl_Colouring_code_ac k p0 (some (impl_always)) 69 ([]) Try.call69 (fun r h => by cases h; exact impl_always_ac) _ hr1) ?_
  rintro _ _ ⟨rfl, rfl⟩
  refine ⟨(fun _ h => nomatch h), (allc (trivial) (fun _ h => nomatch h)), AOps_as 7 (v' := iV r1) (H' := []) rfl rfl ?_⟩
  refine AOps_q 4 _ rfl rfl rfl (QOp_assign _ _ rfl rfl) ?_
  refine AOps_nil ?_
  refine ACode_seq (ACode_region ?_)
  refine AOps_q 8 _ rfl rfl rfl (QOp_move _ _ rfl rfl) ?_
  refine AOps_q 9 _ rfl rfl rfl (QOp_neq _ _ _ _ _ _ _ rfl rfl rfl) ?_
  refine AOps_nil ?_
  refine ACode_cond _ rfl (fun hb2 => ?_) (fun hb2 => ?_)
  · have h := iteT hb2 h
    refine ACode_seq (ACode_region ?_)
    refine AOps_q 10 _ rfl rfl rfl (QOp_move _ _ rfl rfl) ?_
    refine AOps_q 2 _ rfl rfl rfl (QOp_assign _ _ rfl rfl) ?_
    refine AOps_q 3 _ rfl rfl rfl (QOp_assign _ _ rfl rfl) ?_
    refine AOps_nil ?_
    refine ACode_ret ?_
    cases h
    exact ⟨_, _, fun r a w h => ⟨r, h⟩, _, _, [], _, (.cons (ResV_tmp _ _ rfl) (.cons (ResV_tmp _ _ rfl) .nil)), rfl, rfl, rfl, rfl, rfl⟩
  · have h := iteF hb2 h
    refine ACode_skip ?_
    obtain ⟨os9, hss9, hks9⟩ := bindO h
    clear h
    refine ACode_seqJ (fun E' H' => ∃ s9 : Unit, os9 = .inl s9 ∧ Weak 36 G E' H' [(1, .d (.pv (colD p0) 0))] []) ?_ ?_
    · have h := hss9
      clear hss9
      obtain ⟨s7, hss7, hks7⟩ := bindO h
      clear h
      refine ACode_seqJ (fun E' H' => Weak 36 G E' H' [(1, .d (.pv (colD p0) 0)), (21, bV s7)] []) ?_ ?_
      · have h := hss7
        clear hss7
        refine (ACode_region ?_)
        refine AOps_q 11 _ rfl rfl rfl (QOp_fieldAddr_pv _ _ _ _ _ 1 _ _ rfl Try.underlying26 rfl _ Try.sizeOf2 rfl rfl) ?_
        refine AOps_q 12 _ rfl rfl rfl (QOp_load_pv _ _ _ _ _ rfl Try.isAgg2 rfl rfl) ?_
        refine AOps_q 13 _ rfl rfl rfl (QOp_neq _ _ _ _ _ _ _ rfl rfl rfl) ?_
        refine AOps_q 14 _ rfl rfl rfl (QOp_move _ _ rfl rfl) ?_
        refine AOps_case 14 _ rfl (fun hb3 => ?_) (fun hb3 => ?_)
        · have h := iteT hb3 h
          refine AOps_skip 15 rfl rfl rfl ?_
          refine AOps_skip 16 rfl rfl rfl ?_
          refine AOps_q 17 _ rfl rfl rfl (QOp_pick_t _ _ _ _ rfl rfl rfl) ?_
          refine AOps_q 18 _ rfl rfl rfl (QOp_move _ _ rfl rfl) ?_
          refine AOps_skip 19 rfl rfl rfl ?_
          refine AOps_skip 20 rfl rfl rfl ?_
          refine AOps_q 21 _ rfl rfl rfl (QOp_pick_t _ _ _ _ rfl rfl rfl) ?_
          refine AOps_nil ?_
          cases h
          exact Weak_keep 0 hm [1, 21] [] _ _ rfl rfl rfl
        · have h := iteF hb3 h
          obtain ⟨r4, hr4, h⟩ := bindO h
          refine AOps_call [] 15 _ _ _ _ _ _ _ _ _ _ rfl rfl rfl rfl rfl rfl rfl Try.call55 rfl (nodupB_sound _ rfl) rfl rfl rfl (impl_Colouring_isClosedColour_ac k p0 0 _ hr4) ?_
          rintro _ _ ⟨rfl, rfl⟩
          refine ⟨(fun _ h => nomatch h), (allc (trivial) (fun _ h => nomatch h)), AOps_as 15 (v' := bV r4) (H' := []) rfl rfl ?_⟩
          refine AOps_q 16 _ rfl rfl rfl (QOp_not _ _ _ rfl rfl) ?_
          refine AOps_q 17 _ rfl rfl rfl (QOp_pick_f _ _ _ _ rfl rfl rfl) ?_
          refine AOps_q 18 _ rfl rfl rfl (QOp_move _ _ rfl rfl) ?_
          refine AOps_case 18 _ rfl (fun hb5 => ?_) (fun hb5 => ?_)
          · have h := iteT hb5 h
            refine AOps_skip 19 rfl rfl rfl ?_
            refine AOps_skip 20 rfl rfl rfl ?_
            refine AOps_q 21 _ rfl rfl rfl (QOp_pick_t _ _ _ _ rfl rfl rfl) ?_
            refine AOps_nil ?_
            cases h
            exact Weak_keep 0 hm [1, 21] [] _ _ rfl rfl rfl
          · have h := iteF hb5 h
            obtain ⟨r6, hr6, h⟩ := bindO h
            refine AOps_call [] 19 _ _ _ _ _ _ _ _ _ _ rfl rfl rfl rfl rfl rfl rfl Try.call55 rfl (nodupB_sound _ rfl) rfl rfl rfl (impl_Colouring_isClosedColour_ac k p0 1 _ hr6) ?_
            rintro _ _ ⟨rfl, rfl⟩
            refine ⟨(fun _ h => nomatch h), (allc (trivial) (fun _ h => nomatch h)), AOps_as 19 (v' := bV r6) (H' := []) rfl rfl ?_⟩
            refine AOps_q 20 _ rfl rfl rfl (QOp_not _ _ _ rfl rfl) ?_
            refine AOps_q 21 _ rfl rfl rfl (QOp_pick_f _ _ _ _ rfl rfl rfl) ?_
            refine AOps_nil ?_
            cases h
            exact Weak_keep 0 hm [1, 21] [] _ _ rfl rfl rfl
      intro E' H' hw
      refine ACode_weak hw ?_
      have h := hks7
      refine ACode_cond _ rfl (fun hb8 => ?_) (fun hb8 => ?_)
      · have h := iteT hb8 h
        refine ACode_seq (ACode_region ?_)
        refine AOps_q 2 _ rfl rfl rfl (QOp_assign _ _ rfl rfl) ?_
        refine AOps_q 3 _ rfl rfl rfl (QOp_assign _ _ rfl rfl) ?_
        refine AOps_nil ?_
        refine ACode_ret ?_
        cases h
        have h := hks9
        cases h
        exact ⟨_, _, fun r a w h => ⟨r, h⟩, _, _, [], _, (.cons (ResV_tmp _ _ rfl) (.cons (ResV_tmp _ _ rfl) .nil)), rfl, rfl, rfl, rfl, rfl⟩
      · have h := iteF hb8 h
        refine ACode_skip ?_
        cases h
        exact ⟨_, rfl, Weak_keep 0 hm [1] [] _ _ rfl rfl rfl⟩
    rintro E' H' ⟨s9, rfl, hw⟩
    refine ACode_weak hw ?_
    have h := hks9
    refine ACode_seq (ACode_region ?_)
    refine AOps_buildSlice 22 _ _ _ [] (intsD ([] : List Int)) _ rfl rfl rfl rfl rfl (by decide) Try.underlying29 Try.sizeOf2 (zero_of Try.typeInfo2 rfl) rfl rfl (intsD_one _) ?_
    refine AOps_q 5 _ rfl rfl rfl (QOp_assign _ _ rfl rfl) ?_
    refine AOps_nil ?_
    obtain ⟨s16, hss16, hks16⟩ := bindO h
    clear h
    refine ACode_seqJ (fun E' H' => Weak 36 G E' H' [(5, .vec 0 0)] [.vec 0 (intsD s16)]) ?_ ?_
    · have h := hss16
      clear hss16
      refine ACode_seq (ACode_region ?_)
      refine AOps_q 23 _ rfl rfl rfl (QOp_fieldAddr_pv _ _ _ _ _ 0 _ _ rfl Try.underlying26 rfl _ Try.sizeOf2 rfl rfl) ?_
      refine AOps_q 24 _ rfl rfl rfl (QOp_load_pv _ _ _ _ _ rfl Try.isAgg2 rfl rfl) ?_
      refine AOps_q 25 _ rfl rfl rfl (QOp_move _ _ rfl rfl) ?_
      refine AOps_nil ?_
      refine ACode_block ?_
      refine ACode_loopW (fun k0 E H => ∃ (x10 : Int) (x11 : List Int), E = [(1, .d (.pv (colD p0) 0)), (5, .vec 0 0), (24, iV p0.p), (25, iV x10)] ∧ H = [.vec 0 (intsD x11)] ∧ impl_OrderOf_l0 k p0 k0 x10 x11 = some s16) k _ _ (Weak_keep 0 hm [1, 5, 24, 25] [0] _ _ rfl rfl rfl) ⟨_, _, rfl, rfl, h⟩ ?_
      clear h
      rintro k0 E H ⟨x10, x11, rfl, rfl, h⟩
      cases k0 with
      | zero => cases (show (none : Option (List Int)) = some _ from h)
      | succ k0 =>
        rw [impl_OrderOf_l0] at h
        refine ACode_seq (ACode_region ?_)
        refine AOps_q 26 _ rfl rfl rfl (QOp_lss _ _ _ _ _ _ _ rfl rfl rfl) ?_
        refine AOps_nil ?_
        refine ACode_seq ?_
        refine ACode_cond _ rfl (fun hb12 => ?_) (fun hb12 => ?_)
        · have h := iteT hb12 h
          refine ACode_skip ?_
          refine ACode_seq ?_
          refine ACode_block ?_
          refine ACode_seq (ACode_region ?_)
          refine AOps_q 27 _ rfl rfl rfl (QOp_move _ _ rfl rfl) ?_
          refine AOps_alloc 6 _ _ ([iD 0]) (zero_of Try.typeInfo2 rfl) (by rfl) rfl rfl rfl rfl ?_
          refine AOps_store1 _ _ _ _ _ _ _ _ rfl rfl rfl rfl rfl rfl rfl Try.sizeOf2 (by decide) rfl ?_
          refine AOps_nil ?_
          refine (ACode_region ?_)
          refine AOps_q 28 _ rfl rfl rfl (QOp_move _ _ rfl rfl) ?_
          refine AOps_q 29 _ rfl rfl rfl (QOp_makeFunc _ _ _ rfl rfl) ?_
          obtain ⟨r13, hr13, h⟩ := bindO h
          refine AOps_callL [] 30 _ _ _ _ _ _ _ _ _ _ rfl rfl rfl rfl rfl rfl rfl Try.call70 rfl (nodupB_sound _ rfl) rfl rfl rfl (impl_Colouring_that_ac k p0 (fun a0 => impl_OrderOf_c1 a0 x10 p0) 71 ([.pv ([iD x10]) 0, .pv (colD p0) 0]) Try.call71 (fun a0 r h => impl_OrderOf_c1_ac a0 x10 p0 r h) _ hr13) ?_
          rintro _ _ ⟨rfl, rfl⟩
          refine ⟨(allc (intsD_flat _) (fun _ h => nomatch h)), (allc (trivial) (fun _ h => nomatch h)), AOps_as 30 (v' := .vec 2 0) (H' := [.vec 0 (intsD x11), .box [iD x10], .vec 0 (intsD r13)]) rfl rfl ?_⟩
          refine AOps_callL [] 31 _ _ _ _ _ _ _ _ _ _ rfl rfl rfl rfl rfl rfl rfl Try.call61 rfl (nodupB_sound _ rfl) rfl rfl rfl (impl_size_ac r13) ?_
          rintro _ _ ⟨rfl, rfl⟩
          refine ⟨(fun _ h => nomatch h), (allc (flat_s _) (fun _ h => nomatch h)), AOps_as 31 (v' := iV (impl_size r13)) (H' := [.vec 0 (intsD x11), .box [iD x10], .vec 0 (intsD r13)]) rfl rfl ?_⟩
          refine AOps_buildSlice 32 _ _ _ [_] (intsD ([(impl_size r13)])) _ rfl rfl rfl rfl rfl (by decide) Try.underlying29 Try.sizeOf2 (zero_of Try.typeInfo2 rfl) rfl rfl (intsD_one _) ?_
          obtain ⟨hc15, h⟩ := guardO h
          refine AOps_append 33 _ _ _ _ _ _ _ _ _ _ _ _ rfl rfl rfl rfl rfl rfl rfl Try.underlying29 Try.type2 rfl rfl rfl (by decide) rfl rfl rfl rfl (intsD_one _) (by rw [intsD_length, intsD_length]; exact hc15) ?_
          rw [intsD_app]
          refine AOps_q 5 _ rfl rfl rfl (QOp_assign _ _ rfl rfl) ?_
          refine AOps_nil ?_
          refine (ACode_region ?_)
          refine AOps_q 34 _ rfl rfl rfl (QOp_add _ _ _ _ _ _ _ rfl rfl rfl) ?_
          refine AOps_q 25 _ rfl rfl rfl (QOp_move _ _ rfl rfl) ?_
          refine AOps_nil ?_
          exact ⟨k0, _, _, Nat.lt_succ_self _, Weak_trans (Weak_keep 0 hm [1, 5, 24, 25] [0] _ _ rfl rfl rfl) (Weak_reset 0 hm hz [1, 5, 24, 25] _ _ rfl rfl), _, _, rfl, rfl, h⟩
        · have h := iteF hb12 h
          refine ACode_exit ?_
          cases h
          exact Weak_keep 0 hm [5] [0] _ _ rfl rfl rfl
    intro E' H' hw
    refine ACode_weak hw ?_
    have h := hks16
    refine ACode_seq (ACode_region ?_)
    refine AOps_q 35 _ rfl rfl rfl (QOp_move _ _ rfl rfl) ?_
    refine AOps_q 2 _ rfl rfl rfl (QOp_assign _ _ rfl rfl) ?_
    refine AOps_q 3 _ rfl rfl rfl (QOp_assign _ _ rfl rfl) ?_
    refine AOps_nil ?_
    refine ACode_ret ?_
    cases h
    exact ⟨_, _, Weak_reset 0 hm hz [2, 3] _ _ rfl rfl, _, _, [0], _, (.cons (ResV_tmp _ _ rfl) (.cons (ResV_tmp _ _ rfl) .nil)), rfl, rfl, rfl, rfl, rfl⟩

-- loop.example/g01362/spec.OrderOf
def spec_OrderOf_l1 (p0 : Col) (x10 : Int) : Nat → Int → Int → Option (Int)
  | 0, _, _ => none
  | k1 + 1, x13, x14 => (if decide (x14 < p0.p) then (((if decide (x14 < x10) then (spec_l01At p0 x14 x10).bind fun r17 => (if decide (r17 = 0) then some true else (if decide (x10 < x14) then (spec_l01At p0 x10 x14).bind fun r20 => some (decide (r20 = 1)) else some false)) else (if decide (x10 < x14) then (spec_l01At p0 x10 x14).bind fun r22 => some (decide (r22 = 1)) else some false)) : Option (Bool)).bind fun s23 => (if s23 then some (w64 (x13 + 1)) else some x13) : Option (Int)).bind fun s25 => spec_OrderOf_l1 p0 x10 k1 s25 (w64 (x14 + 1)) else some x13)
def spec_OrderOf_l0 (k : Nat) (p0 : Col) : Nat → Int → (List Int) → Option (List Int)
  | 0, _, _ => none
  | k0 + 1, x10, x11 => (if decide (x10 < p0.p) then ((spec_OrderOf_l1 p0 x10 k 0 0 : Option (Int)).bind fun s26 => (if x11.length + ([s26]).length ≤ 1099511627776 then some (x11 ++ ([s26])) else none) : Option (List Int)).bind fun s28 => spec_OrderOf_l0 k p0 k0 (w64 (x10 + 1)) s28 else some x11)
def spec_OrderOf (k : Nat) (p0 : Col) : Option (List Int × Int) :=
  ((spec_l01Is k p0).bind fun r1 => (if !r1 then some (.inr ([], 1)) else ((if !decide (p0.k = 2) then some true else (spec_l10Closed k p0 0).bind fun r4 => (if !r4 then some true else (spec_l10Closed k p0 1).bind fun r6 => some (!r6))) : Option (Bool)).bind fun s7 => (if s7 then some (.inr ([], 5)) else some (.inl ()))) : Option (Sum (Unit) (List Int × Int))).bind fun os9 => (match os9 with | .inl s9 => (spec_OrderOf_l0 k p0 k 0 ([] : List Int) : Option (List Int)).bind fun s29 => some (s29, 0) | .inr rr => some rr)
set_option maxRecDepth 100000 in
theorem spec_OrderOf_ac (k : Nat) (p0 : Col) (r : List Int × Int) (h : spec_OrderOf k p0 = some r) : AC Try.prog 20 [.d (.agg (colD p0))] [] (fun res H' => res = [.d (.sl none (intsD r.1)), iV r.2] ∧ H' = []) := by
  refine AC_of_body true Try.func20 rfl Try.ntmps20 (rvs := [.tmp 2, .tmp 3]) rfl rfl (fun G hG => ?_)
  have hm : G.H.length = 0 := by rw [hG]; rfl
  have hz : zeroG G.H = true := by rw [hG]; rfl
  unfold spec_OrderOf at h
  refine ACode_seq (ACode_region ?_)
  refine AOps_boxI 1 _ _ (.agg (colD p0)) (colD p0) rfl (colD_one _) rfl rfl rfl rfl rfl ?_
  refine AOps_q 2 _ rfl rfl rfl (QOp_assign _ _ rfl rfl) ?_
  refine AOps_q 3 _ rfl rfl rfl (QOp_assign _ _ rfl rfl) ?_
  refine AOps_nil ?_
  obtain ⟨os9, hss9, hks9⟩ := bindO h
  clear h
  refine ACode_seqJ (fun E' H' => ∃ s9 : Unit, os9 = .inl s9 ∧ Weak 68 G E' H' [(1, .d (.pv (colD p0) 0))] []) ?_ ?_
  · have h := hss9
    clear hss9
    refine ACode_block ?_
    refine ACode_seq (ACode_region ?_)
    refine AOps_q 9 _ rfl rfl rfl (QOp_loadN_pv _ _ _ _ _ _ rfl Try.isAgg26 Try.sizeOf26 rfl (colD_all _) (colD_length _)) ?_
    obtain ⟨r1, hr1, h⟩ := bindO h
    refine AOps_call [] 10 _ _ _ _ _ _ _ _ _ _ rfl rfl rfl rfl rfl rfl rfl Try.call72 rfl (nodupB_sound _ rfl) rfl rfl rfl (spec_l01Is_ac k p0 _ hr1) ?_
    rintro _ _ ⟨rfl, rfl⟩
    refine ⟨(fun _ h => nomatch h), (allc (trivial) (fun _ h => nomatch h)), AOps_as 10 (v' := bV r1) (H' := []) rfl rfl ?_⟩
    refine AOps_q 11 _ rfl rfl rfl (QOp_not _ _ _ rfl rfl) ?_
    refine AOps_q 8 _ rfl rfl rfl (QOp_assign _ _ rfl rfl) ?_
    refine AOps_nil ?_
    refine ACode_cond _ rfl (fun hb2 => ?_) (fun hb2 => ?_)
    · have h := iteT hb2 h
      refine ACode_seq (ACode_region ?_)
      refine AOps_q 2 _ rfl rfl rfl (QOp_assign _ _ rfl rfl) ?_
      refine AOps_q 3 _ rfl rfl rfl (QOp_assign _ _ rfl rfl) ?_
      refine AOps_nil ?_
      refine ACode_ret ?_
      cases h
      have h := hks9
      cases h
      exact ⟨_, _, fun r a w h => ⟨r, h⟩, _, _, [], _, (.cons (ResV_tmp _ _ rfl) (.cons (ResV_tmp _ _ rfl) .nil)), rfl, rfl, rfl, rfl, rfl⟩
    · have h := iteF hb2 h
      obtain ⟨s7, hss7, hks7⟩ := bindO h
      clear h
      refine ACode_seqJ (fun E' H' => Weak 68 G E' H' [(1, .d (.pv (colD p0) 0)), (12, bV s7)] []) ?_ ?_
      · have h := hss7
        clear hss7
        refine (ACode_region ?_)
        refine AOps_q 13 _ rfl rfl rfl (QOp_fieldAddr_pv _ _ _ _ _ 1 _ _ rfl Try.underlying26 rfl _ Try.sizeOf2 rfl rfl) ?_
        refine AOps_q 14 _ rfl rfl rfl (QOp_load_pv _ _ _ _ _ rfl Try.isAgg2 rfl rfl) ?_
        refine AOps_q 15 _ rfl rfl rfl (QOp_neq _ _ _ _ _ _ _ rfl rfl rfl) ?_
        refine AOps_q 16 _ rfl rfl rfl (QOp_move _ _ rfl rfl) ?_
        refine AOps_case 16 _ rfl (fun hb3 => ?_) (fun hb3 => ?_)
        · have h := iteT hb3 h
          refine AOps_skip 17 rfl rfl rfl ?_
          refine AOps_skip 18 rfl rfl rfl ?_
          refine AOps_skip 19 rfl rfl rfl ?_
          refine AOps_q 20 _ rfl rfl rfl (QOp_pick_t _ _ _ _ rfl rfl rfl) ?_
          refine AOps_q 21 _ rfl rfl rfl (QOp_move _ _ rfl rfl) ?_
          refine AOps_skip 22 rfl rfl rfl ?_
          refine AOps_skip 23 rfl rfl rfl ?_
          refine AOps_skip 24 rfl rfl rfl ?_
          refine AOps_q 25 _ rfl rfl rfl (QOp_pick_t _ _ _ _ rfl rfl rfl) ?_
          refine AOps_q 12 _ rfl rfl rfl (QOp_assign _ _ rfl rfl) ?_
          refine AOps_nil ?_
          cases h
          exact Weak_keep 0 hm [1, 12] [] _ _ rfl rfl rfl
        · have h := iteF hb3 h
          refine AOps_q 17 _ rfl rfl rfl (QOp_loadN_pv _ _ _ _ _ _ rfl Try.isAgg26 Try.sizeOf26 rfl (colD_all _) (colD_length _)) ?_
          obtain ⟨r4, hr4, h⟩ := bindO h
          refine AOps_call [] 18 _ _ _ _ _ _ _ _ _ _ rfl rfl rfl rfl rfl rfl rfl Try.call56 rfl (nodupB_sound _ rfl) rfl rfl rfl (spec_l10Closed_ac k p0 0 _ hr4) ?_
          rintro _ _ ⟨rfl, rfl⟩
          refine ⟨(fun _ h => nomatch h), (allc (trivial) (fun _ h => nomatch h)), AOps_as 18 (v' := bV r4) (H' := []) rfl rfl ?_⟩
          refine AOps_q 19 _ rfl rfl rfl (QOp_not _ _ _ rfl rfl) ?_
          refine AOps_q 20 _ rfl rfl rfl (QOp_pick_f _ _ _ _ rfl rfl rfl) ?_
          refine AOps_q 21 _ rfl rfl rfl (QOp_move _ _ rfl rfl) ?_
          refine AOps_case 21 _ rfl (fun hb5 => ?_) (fun hb5 => ?_)
          · have h := iteT hb5 h
            refine AOps_skip 22 rfl rfl rfl ?_
            refine AOps_skip 23 rfl rfl rfl ?_
            refine AOps_skip 24 rfl rfl rfl ?_
            refine AOps_q 25 _ rfl rfl rfl (QOp_pick_t _ _ _ _ rfl rfl rfl) ?_
            refine AOps_q 12 _ rfl rfl rfl (QOp_assign _ _ rfl rfl) ?_
            refine AOps_nil ?_
            cases h
            exact Weak_keep 0 hm [1, 12] [] _ _ rfl rfl rfl
          · have h := iteF hb5 h
            refine AOps_q 22 _ rfl rfl rfl (QOp_loadN_pv _ _ _ _ _ _ rfl Try.isAgg26 Try.sizeOf26 rfl (colD_all _) (colD_length _)) ?_
            obtain ⟨r6, hr6, h⟩ := bindO h
            refine AOps_call [] 23 _ _ _ _ _ _ _ _ _ _ rfl rfl rfl rfl rfl rfl rfl Try.call56 rfl (nodupB_sound _ rfl) rfl rfl rfl (spec_l10Closed_ac k p0 1 _ hr6) ?_
            rintro _ _ ⟨rfl, rfl⟩
            refine ⟨(fun _ h => nomatch h), (allc (trivial) (fun _ h => nomatch h)), AOps_as 23 (v' := bV r6) (H' := []) rfl rfl ?_⟩
            refine AOps_q 24 _ rfl rfl rfl (QOp_not _ _ _ rfl rfl) ?_
            refine AOps_q 25 _ rfl rfl rfl (QOp_pick_f _ _ _ _ rfl rfl rfl) ?_
            refine AOps_q 12 _ rfl rfl rfl (QOp_assign _ _ rfl rfl) ?_
            refine AOps_nil ?_
            cases h
            exact Weak_keep 0 hm [1, 12] [] _ _ rfl rfl rfl
      intro E' H' hw
      refine ACode_weak hw ?_
      have h := hks7
      refine ACode_cond _ rfl (fun hb8 => ?_) (fun hb8 => ?_)
      · have h := iteT hb8 h
        refine ACode_seq (ACode_region ?_)
        refine AOps_q 2 _ rfl rfl rfl (QOp_assign _ _ rfl rfl) ?_
        refine AOps_q 3 _ rfl rfl rfl (QOp_assign _ _ rfl rfl) ?_
        refine AOps_nil ?_
        refine ACode_ret ?_
        cases h
        have h := hks9
        cases h
        exact ⟨_, _, fun r a w h => ⟨r, h⟩, _, _, [], _, (.cons (ResV_tmp _ _ rfl) (.cons (ResV_tmp _ _ rfl) .nil)), rfl, rfl, rfl, rfl, rfl⟩
      · have h := iteF hb8 h
        refine ACode_skip ?_
        cases h
        exact ⟨_, rfl, Weak_keep 0 hm [1] [] _ _ rfl rfl rfl⟩
  rintro E' H' ⟨s9, rfl, hw⟩
  refine ACode_weak hw ?_
  have h := hks9
  refine ACode_seq (ACode_region ?_)
  refine AOps_buildSlice 26 _ _ _ [] (intsD ([] : List Int)) _ rfl rfl rfl rfl rfl (by decide) Try.underlying29 Try.sizeOf2 (zero_of Try.typeInfo2 rfl) rfl rfl (intsD_one _) ?_
  refine AOps_q 4 _ rfl rfl rfl (QOp_assign _ _ rfl rfl) ?_
  refine AOps_nil ?_
  obtain ⟨s29, hss29, hks29⟩ := bindO h
  clear h
  refine ACode_seqJ (fun E' H' => Weak 68 G E' H' [(4, .vec 0 0)] [.vec 0 (intsD s29)]) ?_ ?_
  · have h := hss29
    clear hss29
    refine ACode_seq (ACode_region ?_)
    refine AOps_q 5 _ rfl rfl rfl (QOp_assign _ _ rfl rfl) ?_
    refine AOps_nil ?_
    refine ACode_block ?_
    refine ACode_loopW (fun k0 E H => ∃ (x10 : Int) (x11 : List Int), E = [(1, .d (.pv (colD p0) 0)), (4, .vec 0 0), (5, iV x10)] ∧ H = [.vec 0 (intsD x11)] ∧ spec_OrderOf_l0 k p0 k0 x10 x11 = some s29) k _ _ (Weak_keep 0 hm [1, 4, 5] [0] _ _ rfl rfl rfl) ⟨_, _, rfl, rfl, h⟩ ?_
    clear h
    rintro k0 E H ⟨x10, x11, rfl, rfl, h⟩
    cases k0 with
    | zero => cases (show (none : Option (List Int)) = some _ from h)
    | succ k0 =>
      rw [spec_OrderOf_l0] at h
      refine ACode_seq ?_
      refine ACode_seq (ACode_region ?_)
      refine AOps_q 27 _ rfl rfl rfl (QOp_move _ _ rfl rfl) ?_
      refine AOps_q 28 _ rfl rfl rfl (QOp_fieldAddr_pv _ _ _ _ _ 0 _ _ rfl Try.underlying26 rfl _ Try.sizeOf2 rfl rfl) ?_
      refine AOps_q 29 _ rfl rfl rfl (QOp_load_pv _ _ _ _ _ rfl Try.isAgg2 rfl rfl) ?_
      refine AOps_q 30 _ rfl rfl rfl (QOp_lss _ _ _ _ _ _ _ rfl rfl rfl) ?_
      refine AOps_nil ?_
      refine ACode_cond _ rfl (fun hb12 => ?_) (fun hb12 => ?_)
      · have h := iteT hb12 h
        refine ACode_skip ?_
        obtain ⟨s28, hss28, hks28⟩ := bindO h
        clear h
        refine ACode_seqJ (fun E' H' => Weak 68 G E' H' [(1, .d (.pv (colD p0) 0)), (4, .vec 0 0), (5, iV x10)] [.vec 0 (intsD s28)]) ?_ ?_
        · have h := hss28
          clear hss28
          refine ACode_block ?_
          refine ACode_seq (ACode_region ?_)
          refine AOps_q 6 _ rfl rfl rfl (QOp_assign _ _ rfl rfl) ?_
          refine AOps_nil ?_
          obtain ⟨s26, hss26, hks26⟩ := bindO h
          clear h
          refine ACode_seqJ (fun E' H' => Weak 68 G E' H' [(1, .d (.pv (colD p0) 0)), (4, .vec 0 0), (5, iV x10), (6, iV s26)] [.vec 0 (intsD x11)]) ?_ ?_
          · have h := hss26
            clear hss26
            refine ACode_seq (ACode_region ?_)
            refine AOps_q 7 _ rfl rfl rfl (QOp_assign _ _ rfl rfl) ?_
            refine AOps_nil ?_
            refine ACode_block ?_
            refine ACode_loopW (fun k1 E H => ∃ (x13 : Int) (x14 : Int), E = [(1, .d (.pv (colD p0) 0)), (4, .vec 0 0), (5, iV x10), (6, iV x13), (7, iV x14)] ∧ H = [.vec 0 (intsD x11)] ∧ spec_OrderOf_l1 p0 x10 k1 x13 x14 = some s26) k _ _ (Weak_keep 0 hm [1, 4, 5, 6, 7] [0] _ _ rfl rfl rfl) ⟨_, _, rfl, rfl, h⟩ ?_
            clear h
            rintro k1 E H ⟨x13, x14, rfl, rfl, h⟩
            cases k1 with
            | zero => cases (show (none : Option (Int)) = some _ from h)
            | succ k1 =>
              rw [spec_OrderOf_l1] at h
              refine ACode_seq ?_
              refine ACode_seq (ACode_region ?_)
              refine AOps_q 33 _ rfl rfl rfl (QOp_move _ _ rfl rfl) ?_
              refine AOps_q 34 _ rfl rfl rfl (QOp_fieldAddr_pv _ _ _ _ _ 0 _ _ rfl Try.underlying26 rfl _ Try.sizeOf2 rfl rfl) ?_
              refine AOps_q 35 _ rfl rfl rfl (QOp_load_pv _ _ _ _ _ rfl Try.isAgg2 rfl rfl) ?_
              refine AOps_q 36 _ rfl rfl rfl (QOp_lss _ _ _ _ _ _ _ rfl rfl rfl) ?_
              refine AOps_nil ?_
              refine ACode_cond _ rfl (fun hb15 => ?_) (fun hb15 => ?_)
              · have h := iteT hb15 h
                refine ACode_skip ?_
                obtain ⟨s25, hss25, hks25⟩ := bindO h
                clear h
                refine ACode_seqJ (fun E' H' => Weak 68 G E' H' [(1, .d (.pv (colD p0) 0)), (4, .vec 0 0), (5, iV x10), (6, iV s25), (7, iV x14)] [.vec 0 (intsD x11)]) ?_ ?_
                · have h := hss25
                  clear hss25
                  refine ACode_block ?_
                  obtain ⟨s23, hss23, hks23⟩ := bindO h
                  clear h
                  refine ACode_seqJ (fun E' H' => Weak 68 G E' H' [(1, .d (.pv (colD p0) 0)), (4, .vec 0 0), (5, iV x10), (6, iV x13), (7, iV x14), (60, bV s23)] [.vec 0 (intsD x11)]) ?_ ?_
                  · have h := hss23
                    clear hss23
                    refine (ACode_region ?_)
                    refine AOps_q 39 _ rfl rfl rfl (QOp_move _ _ rfl rfl) ?_
                    refine AOps_q 40 _ rfl rfl rfl (QOp_move _ _ rfl rfl) ?_
                    refine AOps_q 41 _ rfl rfl rfl (QOp_lss _ _ _ _ _ _ _ rfl rfl rfl) ?_
                    refine AOps_q 42 _ rfl rfl rfl (QOp_move _ _ rfl rfl) ?_
                    refine AOps_case 42 _ rfl (fun hb16 => ?_) (fun hb16 => ?_)
                    · have h := iteT hb16 h
                      refine AOps_q 43 _ rfl rfl rfl (QOp_loadN_pv _ _ _ _ _ _ rfl Try.isAgg26 Try.sizeOf26 rfl (colD_all _) (colD_length _)) ?_
                      refine AOps_q 44 _ rfl rfl rfl (QOp_move _ _ rfl rfl) ?_
                      refine AOps_q 45 _ rfl rfl rfl (QOp_move _ _ rfl rfl) ?_
                      obtain ⟨r17, hr17, h⟩ := bindO h
                      refine AOps_call [] 46 _ _ _ _ _ _ _ _ _ _ rfl rfl rfl rfl rfl rfl rfl Try.call54 rfl (nodupB_sound _ rfl) rfl rfl rfl (spec_l01At_ac p0 x14 x10 _ hr17) ?_
                      rintro _ _ ⟨rfl, rfl⟩
                      refine ⟨(fun _ h => nomatch h), (allc (trivial) (fun _ h => nomatch h)), AOps_as 46 (v' := iV r17) (H' := [.vec 0 (intsD x11)]) rfl rfl ?_⟩
                      refine AOps_q 47 _ rfl rfl rfl (QOp_eql _ _ _ _ _ _ _ rfl rfl rfl) ?_
                      refine AOps_q 48 _ rfl rfl rfl (QOp_pick_t _ _ _ _ rfl rfl rfl) ?_
                      refine AOps_q 49 _ rfl rfl rfl (QOp_move _ _ rfl rfl) ?_
                      refine AOps_case 49 _ rfl (fun hb18 => ?_) (fun hb18 => ?_)
                      · have h := iteT hb18 h
                        refine AOps_skip 50 rfl rfl rfl ?_
                        refine AOps_skip 51 rfl rfl rfl ?_
                        refine AOps_skip 52 rfl rfl rfl ?_
                        refine AOps_skip 53 rfl rfl rfl ?_
                        refine AOps_skip 54 rfl rfl rfl ?_
                        refine AOps_skip 55 rfl rfl rfl ?_
                        refine AOps_skip 56 rfl rfl rfl ?_
                        refine AOps_skip 57 rfl rfl rfl ?_
                        refine AOps_skip 58 rfl rfl rfl ?_
                        refine AOps_skip 59 rfl rfl rfl ?_
                        refine AOps_q 60 _ rfl rfl rfl (QOp_pick_t _ _ _ _ rfl rfl rfl) ?_
                        refine AOps_nil ?_
                        cases h
                        exact Weak_keep 0 hm [1, 4, 5, 6, 7, 60] [0] _ _ rfl rfl rfl
                      · have h := iteF hb18 h
                        refine AOps_q 50 _ rfl rfl rfl (QOp_move _ _ rfl rfl) ?_
                        refine AOps_q 51 _ rfl rfl rfl (QOp_move _ _ rfl rfl) ?_
                        refine AOps_q 52 _ rfl rfl rfl (QOp_gtr _ _ _ _ _ _ _ rfl rfl rfl) ?_
                        refine AOps_q 53 _ rfl rfl rfl (QOp_move _ _ rfl rfl) ?_
                        refine AOps_case 53 _ rfl (fun hb19 => ?_) (fun hb19 => ?_)
                        · have h := iteT hb19 h
                          refine AOps_q 54 _ rfl rfl rfl (QOp_loadN_pv _ _ _ _ _ _ rfl Try.isAgg26 Try.sizeOf26 rfl (colD_all _) (colD_length _)) ?_
                          refine AOps_q 55 _ rfl rfl rfl (QOp_move _ _ rfl rfl) ?_
                          refine AOps_q 56 _ rfl rfl rfl (QOp_move _ _ rfl rfl) ?_
                          obtain ⟨r20, hr20, h⟩ := bindO h
                          refine AOps_call [] 57 _ _ _ _ _ _ _ _ _ _ rfl rfl rfl rfl rfl rfl rfl Try.call54 rfl (nodupB_sound _ rfl) rfl rfl rfl (spec_l01At_ac p0 x10 x14 _ hr20) ?_
                          rintro _ _ ⟨rfl, rfl⟩
                          refine ⟨(fun _ h => nomatch h), (allc (trivial) (fun _ h => nomatch h)), AOps_as 57 (v' := iV r20) (H' := [.vec 0 (intsD x11)]) rfl rfl ?_⟩
                          refine AOps_q 58 _ rfl rfl rfl (QOp_eql _ _ _ _ _ _ _ rfl rfl rfl) ?_
                          refine AOps_q 59 _ rfl rfl rfl (QOp_pick_t _ _ _ _ rfl rfl rfl) ?_
                          refine AOps_q 60 _ rfl rfl rfl (QOp_pick_f _ _ _ _ rfl rfl rfl) ?_
                          refine AOps_nil ?_
                          cases h
                          exact Weak_keep 0 hm [1, 4, 5, 6, 7, 60] [0] _ _ rfl rfl rfl
                        · have h := iteF hb19 h
                          refine AOps_skip 54 rfl rfl rfl ?_
                          refine AOps_skip 55 rfl rfl rfl ?_
                          refine AOps_skip 56 rfl rfl rfl ?_
                          refine AOps_skip 57 rfl rfl rfl ?_
                          refine AOps_skip 58 rfl rfl rfl ?_
                          refine AOps_q 59 _ rfl rfl rfl (QOp_pick_f _ _ _ _ rfl rfl rfl) ?_
                          refine AOps_q 60 _ rfl rfl rfl (QOp_pick_f _ _ _ _ rfl rfl rfl) ?_
                          refine AOps_nil ?_
                          cases h
                          exact Weak_keep 0 hm [1, 4, 5, 6, 7, 60] [0] _ _ rfl rfl rfl
                    · have h := iteF hb16 h
                      refine AOps_skip 43 rfl rfl rfl ?_
                      refine AOps_skip 44 rfl rfl rfl ?_
                      refine AOps_skip 45 rfl rfl rfl ?_
                      refine AOps_skip 46 rfl rfl rfl ?_
                      refine AOps_skip 47 rfl rfl rfl ?_
                      refine AOps_q 48 _ rfl rfl rfl (QOp_pick_f _ _ _ _ rfl rfl rfl) ?_
                      refine AOps_q 49 _ rfl rfl rfl (QOp_move _ _ rfl rfl) ?_
                      refine AOps_q 50 _ rfl rfl rfl (QOp_move _ _ rfl rfl) ?_
                      refine AOps_q 51 _ rfl rfl rfl (QOp_move _ _ rfl rfl) ?_
                      refine AOps_q 52 _ rfl rfl rfl (QOp_gtr _ _ _ _ _ _ _ rfl rfl rfl) ?_
                      refine AOps_q 53 _ rfl rfl rfl (QOp_move _ _ rfl rfl) ?_
                      refine AOps_case 53 _ rfl (fun hb21 => ?_) (fun hb21 => ?_)
                      · have h := iteT hb21 h
                        refine AOps_q 54 _ rfl rfl rfl (QOp_loadN_pv _ _ _ _ _ _ rfl Try.isAgg26 Try.sizeOf26 rfl (colD_all _) (colD_length _)) ?_
                        refine AOps_q 55 _ rfl rfl rfl (QOp_move _ _ rfl rfl) ?_
                        refine AOps_q 56 _ rfl rfl rfl (QOp_move _ _ rfl rfl) ?_
                        obtain ⟨r22, hr22, h⟩ := bindO h
                        refine AOps_call [] 57 _ _ _ _ _ _ _ _ _ _ rfl rfl rfl rfl rfl rfl rfl Try.call54 rfl (nodupB_sound _ rfl) rfl rfl rfl (spec_l01At_ac p0 x10 x14 _ hr22) ?_
                        rintro _ _ ⟨rfl, rfl⟩
                        refine ⟨(fun _ h => nomatch h), (allc (trivial) (fun _ h => nomatch h)), AOps_as 57 (v' := iV r22) (H' := [.vec 0 (intsD x11)]) rfl rfl ?_⟩
                        refine AOps_q 58 _ rfl rfl rfl (QOp_eql _ _ _ _ _ _ _ rfl rfl rfl) ?_
                        refine AOps_q 59 _ rfl rfl rfl (QOp_pick_t _ _ _ _ rfl rfl rfl) ?_
                        refine AOps_q 60 _ rfl rfl rfl (QOp_pick_f _ _ _ _ rfl rfl rfl) ?_
                        refine AOps_nil ?_
                        cases h
                        exact Weak_keep 0 hm [1, 4, 5, 6, 7, 60] [0] _ _ rfl rfl rfl
                      · have h := iteF hb21 h
                        refine AOps_skip 54 rfl rfl rfl ?_
                        refine AOps_skip 55 rfl rfl rfl ?_
                        refine AOps_skip 56 rfl rfl rfl ?_
                        refine AOps_skip 57 rfl rfl rfl ?_
                        refine AOps_skip 58 rfl rfl rfl ?_
                        refine AOps_q 59 _ rfl rfl rfl (QOp_pick_f _ _ _ _ rfl rfl rfl) ?_
                        refine AOps_q 60 _ rfl rfl rfl (QOp_pick_f _ _ _ _ rfl rfl rfl) ?_
                        refine AOps_nil ?_
                        cases h
                        exact Weak_keep 0 hm [1, 4, 5, 6, 7, 60] [0] _ _ rfl rfl rfl
                  intro E' H' hw
                  refine ACode_weak hw ?_
                  have h := hks23
                  refine ACode_cond _ rfl (fun hb24 => ?_) (fun hb24 => ?_)
                  · have h := iteT hb24 h
                    refine (ACode_region ?_)
                    refine AOps_q 61 _ rfl rfl rfl (QOp_move _ _ rfl rfl) ?_
                    refine AOps_q 62 _ rfl rfl rfl (QOp_add _ _ _ _ _ _ _ rfl rfl rfl) ?_
                    refine AOps_q 6 _ rfl rfl rfl (QOp_assign _ _ rfl rfl) ?_
                    refine AOps_nil ?_
                    cases h
                    exact Weak_keep 0 hm [1, 4, 5, 6, 7] [0] _ _ rfl rfl rfl
                  · have h := iteF hb24 h
                    refine ACode_skip ?_
                    cases h
                    exact Weak_keep 0 hm [1, 4, 5, 6, 7] [0] _ _ rfl rfl rfl
                intro E' H' hw
                refine ACode_weak hw ?_
                have h := hks25
                refine (ACode_region ?_)
                refine AOps_q 37 _ rfl rfl rfl (QOp_move _ _ rfl rfl) ?_
                refine AOps_q 38 _ rfl rfl rfl (QOp_add _ _ _ _ _ _ _ rfl rfl rfl) ?_
                refine AOps_q 7 _ rfl rfl rfl (QOp_assign _ _ rfl rfl) ?_
                refine AOps_nil ?_
                exact ⟨k1, _, _, Nat.lt_succ_self _, Weak_keep 0 hm [1, 4, 5, 6, 7] [0] _ _ rfl rfl rfl, _, _, rfl, rfl, h⟩
              · have h := iteF hb15 h
                refine ACode_exit ?_
                cases h
                exact Weak_keep 0 hm [1, 4, 5, 6] [0] _ _ rfl rfl rfl
          intro E' H' hw
          refine ACode_weak hw ?_
          have h := hks26
          refine (ACode_region ?_)
          refine AOps_q 63 _ rfl rfl rfl (QOp_move _ _ rfl rfl) ?_
          refine AOps_q 64 _ rfl rfl rfl (QOp_move _ _ rfl rfl) ?_
          refine AOps_buildSlice 65 _ _ _ [_] (intsD ([s26])) _ rfl rfl rfl rfl rfl (by decide) Try.underlying29 Try.sizeOf2 (zero_of Try.typeInfo2 rfl) rfl rfl (intsD_one _) ?_
          obtain ⟨hc27, h⟩ := guardO h
          refine AOps_append 66 _ _ _ _ _ _ _ _ _ _ _ _ rfl rfl rfl rfl rfl rfl rfl Try.underlying29 Try.type2 rfl rfl rfl (by decide) rfl rfl rfl rfl (intsD_one _) (by rw [intsD_length, intsD_length]; exact hc27) ?_
          rw [intsD_app]
          refine AOps_q 4 _ rfl rfl rfl (QOp_assign _ _ rfl rfl) ?_
          refine AOps_nil ?_
          cases h
          exact Weak_trans (Weak_keep 0 hm [1, 4, 5] [0] _ _ rfl rfl rfl) (Weak_reset 0 hm hz [1, 4, 5] _ _ rfl rfl)
        intro E' H' hw
        refine ACode_weak hw ?_
        have h := hks28
        refine (ACode_region ?_)
        refine AOps_q 31 _ rfl rfl rfl (QOp_move _ _ rfl rfl) ?_
        refine AOps_q 32 _ rfl rfl rfl (QOp_add _ _ _ _ _ _ _ rfl rfl rfl) ?_
        refine AOps_q 5 _ rfl rfl rfl (QOp_assign _ _ rfl rfl) ?_
        refine AOps_nil ?_
        exact ⟨k0, _, _, Nat.lt_succ_self _, Weak_keep 0 hm [1, 4, 5] [0] _ _ rfl rfl rfl, _, _, rfl, rfl, h⟩
      · have h := iteF hb12 h
        refine ACode_exit ?_
        cases h
        exact Weak_keep 0 hm [4] [0] _ _ rfl rfl rfl
  intro E' H' hw
  refine ACode_weak hw ?_
  have h := hks29
  refine ACode_seq (ACode_region ?_)
  refine AOps_q 67 _ rfl rfl rfl (QOp_move _ _ rfl rfl) ?_
  refine AOps_q 2 _ rfl rfl rfl (QOp_assign _ _ rfl rfl) ?_
  refine AOps_q 3 _ rfl rfl rfl (QOp_assign _ _ rfl rfl) ?_
  refine AOps_nil ?_
  refine ACode_ret ?_
  cases h
  exact ⟨_, _, fun r a w h => ⟨r, h⟩, _, _, [], _, (.cons (ResV_tmp _ _ rfl) (.cons (ResV_tmp _ _ rfl) .nil)), rfl, rfl, rfl, rfl, rfl⟩

-- loop.example/g01362/impl.areThousand
def impl_areThousand (p0 : Int) (p1 : Int) : Bool :=
  letO (if (impl_in p0 1 1000) then (impl_in p1 1 1000) else false) fun (s4 : Bool) => s4
set_option maxRecDepth 100000 in
theorem impl_areThousand_ac (p0 : Int) (p1 : Int) : AC Try.prog 73 [iV p0, iV p1] [] (fun res H' => res = [bV (impl_areThousand p0 p1)] ∧ H' = []) := by
  refine AC_of_body true Try.func73 rfl Try.ntmps73 (rvs := [.tmp 4]) rfl rfl (fun G hG => ?_)
  have hm : G.H.length = 0 := by rw [hG]; rfl
  have hz : zeroG G.H = true := by rw [hG]; rfl
  obtain ⟨r, h⟩ : ∃ r, impl_areThousand p0 p1 = r := ⟨_, rfl⟩
  rw [h]
  unfold impl_areThousand at h
  refine ACode_seq (ACode_region ?_)
  refine AOps_q 4 _ rfl rfl rfl (QOp_assign _ _ rfl rfl) ?_
  refine AOps_nil ?_
  obtain ⟨s4, hss4, hks4⟩ := letS h
  clear h
  refine ACode_seqJ (fun E' H' => Weak 11 G E' H' [(4, bV s4)] []) ?_ ?_
  · have h := hss4
    clear hss4
    refine (ACode_region ?_)
    refine AOps_q 5 _ rfl rfl rfl (QOp_move _ _ rfl rfl) ?_
    refine AOps_call [] 6 _ _ _ _ _ _ _ _ _ _ rfl rfl rfl rfl rfl rfl rfl Try.call62 rfl (nodupB_sound _ rfl) rfl rfl rfl (impl_in_ac p0 1 1000) ?_
    rintro _ _ ⟨rfl, rfl⟩
    refine ⟨(fun _ h => nomatch h), (allc (trivial) (fun _ h => nomatch h)), AOps_as 6 (v' := bV (impl_in p0 1 1000)) (H' := []) rfl rfl ?_⟩
    refine AOps_q 7 _ rfl rfl rfl (QOp_move _ _ rfl rfl) ?_
    refine AOps_case 7 _ rfl (fun hb2 => ?_) (fun hb2 => ?_)
    · have h := iteT hb2 h
      refine AOps_q 8 _ rfl rfl rfl (QOp_move _ _ rfl rfl) ?_
      refine AOps_call [] 9 _ _ _ _ _ _ _ _ _ _ rfl rfl rfl rfl rfl rfl rfl Try.call62 rfl (nodupB_sound _ rfl) rfl rfl rfl (impl_in_ac p1 1 1000) ?_
      rintro _ _ ⟨rfl, rfl⟩
      refine ⟨(fun _ h => nomatch h), (allc (trivial) (fun _ h => nomatch h)), AOps_as 9 (v' := bV (impl_in p1 1 1000)) (H' := []) rfl rfl ?_⟩
      refine AOps_q 10 _ rfl rfl rfl (QOp_pick_t _ _ _ _ rfl rfl rfl) ?_
      refine AOps_q 4 _ rfl rfl rfl (QOp_assign _ _ rfl rfl) ?_
      refine AOps_nil ?_
      cases h
      exact Weak_keep 0 hm [4] [] _ _ rfl rfl rfl
    · have h := iteF hb2 h
      refine AOps_skip 8 rfl rfl rfl ?_
      refine AOps_skip 9 rfl rfl rfl ?_
      refine AOps_q 10 _ rfl rfl rfl (QOp_pick_f _ _ _ _ rfl rfl rfl) ?_
      refine AOps_q 4 _ rfl rfl rfl (QOp_assign _ _ rfl rfl) ?_
      refine AOps_nil ?_
      cases h
      exact Weak_keep 0 hm [4] [] _ _ rfl rfl rfl
  intro E' H' hw
  refine ACode_weak hw ?_
  have h := hks4
  refine ACode_ret ?_
  cases h
  exact ⟨_, _, fun r a w h => ⟨r, h⟩, _, _, [], _, (.cons (ResV_tmp _ _ rfl) .nil), rfl, rfl, rfl, rfl, rfl⟩

-- loop.example/g01362/impl.ErdosNumber
def impl_ErdosNumber (p0 : Int) (p1 : Int) : Int × Int :=
  (if !(impl_areThousand p0 p1) then (0, 2) else (w64 ((w64 ((w64 (p0 - 1)) * (w64 (p1 - 1)))) + 1), 0))
set_option maxRecDepth 100000 in
theorem impl_ErdosNumber_ac (p0 : Int) (p1 : Int) : AC Try.prog 21 [iV p0, iV p1] [] (fun res H' => res = [iV ((impl_ErdosNumber p0 p1).1), iV ((impl_ErdosNumber p0 p1).2)] ∧ H' = []) := by
  refine AC_of_body true Try.func21 rfl Try.ntmps21 (rvs := [.tmp 4, .tmp 5]) rfl rfl (fun G hG => ?_)
  have hm : G.H.length = 0 := by rw [hG]; rfl
  have hz : zeroG G.H = true := by rw [hG]; rfl
  obtain ⟨r, h⟩ : ∃ r, impl_ErdosNumber p0 p1 = r := ⟨_, rfl⟩
  rw [h]
  unfold impl_ErdosNumber at h
  refine ACode_seq (ACode_region ?_)
  refine AOps_q 4 _ rfl rfl rfl (QOp_assign _ _ rfl rfl) ?_
  refine AOps_q 5 _ rfl rfl rfl (QOp_assign _ _ rfl rfl) ?_
  refine AOps_nil ?_
  refine ACode_seq ?_
  refine ACode_seq (ACode_region ?_)
  refine AOps_q 6 _ rfl rfl rfl (QOp_move _ _ rfl rfl) ?_
  refine AOps_q 7 _ rfl rfl rfl (QOp_move _ _ rfl rfl) ?_
  refine AOps_call [] 8 _ _ _ _ _ _ _ _ _ _ rfl rfl rfl rfl rfl rfl rfl Try.call73 rfl (nodupB_sound _ rfl) rfl rfl rfl (impl_areThousand_ac p0 p1) ?_
  rintro _ _ ⟨rfl, rfl⟩
  refine ⟨(fun _ h => nomatch h), (allc (trivial) (fun _ h => nomatch h)), AOps_as 8 (v' := bV (impl_areThousand p0 p1)) (H' := []) rfl rfl ?_⟩
  refine AOps_q 9 _ rfl rfl rfl (QOp_not _ _ _ rfl rfl) ?_
  refine AOps_nil ?_
  refine ACode_cond _ rfl (fun hb2 => ?_) (fun hb2 => ?_)
  · have h := iteT hb2 h
    refine ACode_seq (ACode_region ?_)
    refine AOps_q 4 _ rfl rfl rfl (QOp_assign _ _ rfl rfl) ?_
    refine AOps_q 5 _ rfl rfl rfl (QOp_assign _ _ rfl rfl) ?_
    refine AOps_nil ?_
    refine ACode_ret ?_
    cases h
    exact ⟨_, _, fun r a w h => ⟨r, h⟩, _, _, [], _, (.cons (ResV_tmp _ _ rfl) (.cons (ResV_tmp _ _ rfl) .nil)), rfl, rfl, rfl, rfl, rfl⟩
  · have h := iteF hb2 h
    refine ACode_skip ?_
    refine ACode_seq (ACode_region ?_)
    refine AOps_q 10 _ rfl rfl rfl (QOp_move _ _ rfl rfl) ?_
    refine AOps_q 11 _ rfl rfl rfl (QOp_sub _ _ _ _ _ _ _ rfl rfl rfl) ?_
    refine AOps_q 12 _ rfl rfl rfl (QOp_move _ _ rfl rfl) ?_
    refine AOps_q 13 _ rfl rfl rfl (QOp_sub _ _ _ _ _ _ _ rfl rfl rfl) ?_
    refine AOps_q 14 _ rfl rfl rfl (QOp_mul _ _ _ _ _ _ _ rfl rfl rfl) ?_
    refine AOps_q 15 _ rfl rfl rfl (QOp_add _ _ _ _ _ _ _ rfl rfl rfl) ?_
    refine AOps_q 4 _ rfl rfl rfl (QOp_assign _ _ rfl rfl) ?_
    refine AOps_q 5 _ rfl rfl rfl (QOp_assign _ _ rfl rfl) ?_
    refine AOps_nil ?_
    refine ACode_ret ?_
    cases h
    exact ⟨_, _, fun r a w h => ⟨r, h⟩, _, _, [], _, (.cons (ResV_tmp _ _ rfl) (.cons (ResV_tmp _ _ rfl) .nil)), rfl, rfl, rfl, rfl, rfl⟩

-- (*loop.example/g01362/impl.Colouring).has
def impl_Colouring_has (p0 : Col) (p1 : Int) : Bool :=
  (impl_in p1 0 (w64 (p0.p - 1)))
set_option maxRecDepth 100000 in
theorem impl_Colouring_has_ac (p0 : Col) (p1 : Int) : AC Try.prog 116 [.d (.pv (colD p0) 0), iV p1] [] (fun res H' => res = [bV (impl_Colouring_has p0 p1)] ∧ H' = []) := by
  refine AC_of_body true Try.func116 rfl Try.ntmps116 (rvs := [.tmp 4]) rfl rfl (fun G hG => ?_)
  have hm : G.H.length = 0 := by rw [hG]; rfl
  have hz : zeroG G.H = true := by rw [hG]; rfl
  obtain ⟨r, h⟩ : ∃ r, impl_Colouring_has p0 p1 = r := ⟨_, rfl⟩
  rw [h]
  unfold impl_Colouring_has at h
  refine ACode_seq (ACode_region ?_)
  refine AOps_q 4 _ rfl rfl rfl (QOp_assign _ _ rfl rfl) ?_
  refine AOps_nil ?_
  refine ACode_seq (ACode_region ?_)
  refine AOps_q 5 _ rfl rfl rfl (QOp_move _ _ rfl rfl) ?_
  refine AOps_q 6 _ rfl rfl rfl (QOp_move _ _ rfl rfl) ?_
  refine AOps_q 7 _ rfl rfl rfl (QOp_nilCheck_pv _ _ _ rfl rfl) ?_
  refine AOps_q 8 _ rfl rfl rfl (QOp_fieldAddr_pv _ _ _ _ _ 0 _ _ rfl Try.underlying26 rfl _ Try.sizeOf2 rfl rfl) ?_
  refine AOps_q 9 _ rfl rfl rfl (QOp_load_pv _ _ _ _ _ rfl Try.isAgg2 rfl rfl) ?_
  refine AOps_q 10 _ rfl rfl rfl (QOp_sub _ _ _ _ _ _ _ rfl rfl rfl) ?_
  refine AOps_call [] 11 _ _ _ _ _ _ _ _ _ _ rfl rfl rfl rfl rfl rfl rfl Try.call62 rfl (nodupB_sound _ rfl) rfl rfl rfl (impl_in_ac p1 0 (w64 (p0.p - 1))) ?_
  rintro _ _ ⟨rfl, rfl⟩
  refine ⟨(fun _ h => nomatch h), (allc (trivial) (fun _ h => nomatch h)), AOps_as 11 (v' := bV (impl_in p1 0 (w64 (p0.p - 1)))) (H' := []) rfl rfl ?_⟩
  refine AOps_q 4 _ rfl rfl rfl (QOp_assign _ _ rfl rfl) ?_
  refine AOps_nil ?_
  refine ACode_ret ?_
  cases h
  exact ⟨_, _, fun r a w h => ⟨r, h⟩, _, _, [], _, (.cons (ResV_tmp _ _ rfl) .nil), rfl, rfl, rfl, rfl, rfl⟩

-- (*loop.example/g01362/impl.Colouring).hasTwo
def impl_Colouring_hasTwo (p0 : Col) (p1 : Int) (p2 : Int) : Bool :=
  letO (if (impl_Colouring_has p0 p1) then (if (impl_Colouring_has p0 p2) then !decide (p1 = p2) else false) else false) fun (s5 : Bool) => s5
set_option maxRecDepth 100000 in
theorem impl_Colouring_hasTwo_ac (p0 : Col) (p1 : Int) (p2 : Int) : AC Try.prog 75 [.d (.pv (colD p0) 0), iV p1, iV p2] [] (fun res H' => res = [bV (impl_Colouring_hasTwo p0 p1 p2)] ∧ H' = []) := by
  refine AC_of_body true Try.func75 rfl Try.ntmps75 (rvs := [.tmp 6]) rfl rfl (fun G hG => ?_)
  have hm : G.H.length = 0 := by rw [hG]; rfl
  have hz : zeroG G.H = true := by rw [hG]; rfl
  obtain ⟨r, h⟩ : ∃ r, impl_Colouring_hasTwo p0 p1 p2 = r := ⟨_, rfl⟩
  rw [h]
  unfold impl_Colouring_hasTwo at h
  refine ACode_seq (ACode_region ?_)
  refine AOps_q 6 _ rfl rfl rfl (QOp_assign _ _ rfl rfl) ?_
  refine AOps_nil ?_
  obtain ⟨s5, hss5, hks5⟩ := letS h
  clear h
  refine ACode_seqJ (fun E' H' => Weak 20 G E' H' [(6, bV s5)] []) ?_ ?_
  · have h := hss5
    clear hss5
    refine (ACode_region ?_)
    refine AOps_q 7 _ rfl rfl rfl (QOp_move _ _ rfl rfl) ?_
    refine AOps_q 8 _ rfl rfl rfl (QOp_move _ _ rfl rfl) ?_
    refine AOps_call [] 9 _ _ _ _ _ _ _ _ _ _ rfl rfl rfl rfl rfl rfl rfl Try.call116 rfl (nodupB_sound _ rfl) rfl rfl rfl (impl_Colouring_has_ac p0 p1) ?_
    rintro _ _ ⟨rfl, rfl⟩
    refine ⟨(fun _ h => nomatch h), (allc (trivial) (fun _ h => nomatch h)), AOps_as 9 (v' := bV (impl_Colouring_has p0 p1)) (H' := []) rfl rfl ?_⟩
    refine AOps_q 10 _ rfl rfl rfl (QOp_move _ _ rfl rfl) ?_
    refine AOps_case 10 _ rfl (fun hb2 => ?_) (fun hb2 => ?_)
    · have h := iteT hb2 h
      refine AOps_q 11 _ rfl rfl rfl (QOp_move _ _ rfl rfl) ?_
      refine AOps_q 12 _ rfl rfl rfl (QOp_move _ _ rfl rfl) ?_
      refine AOps_call [] 13 _ _ _ _ _ _ _ _ _ _ rfl rfl rfl rfl rfl rfl rfl Try.call116 rfl (nodupB_sound _ rfl) rfl rfl rfl (impl_Colouring_has_ac p0 p2) ?_
      rintro _ _ ⟨rfl, rfl⟩
      refine ⟨(fun _ h => nomatch h), (allc (trivial) (fun _ h => nomatch h)), AOps_as 13 (v' := bV (impl_Colouring_has p0 p2)) (H' := []) rfl rfl ?_⟩
      refine AOps_q 14 _ rfl rfl rfl (QOp_pick_t _ _ _ _ rfl rfl rfl) ?_
      refine AOps_q 15 _ rfl rfl rfl (QOp_move _ _ rfl rfl) ?_
      refine AOps_case 15 _ rfl (fun hb4 => ?_) (fun hb4 => ?_)
      · have h := iteT hb4 h
        refine AOps_q 16 _ rfl rfl rfl (QOp_move _ _ rfl rfl) ?_
        refine AOps_q 17 _ rfl rfl rfl (QOp_move _ _ rfl rfl) ?_
        refine AOps_q 18 _ rfl rfl rfl (QOp_neq _ _ _ _ _ _ _ rfl rfl rfl) ?_
        refine AOps_q 19 _ rfl rfl rfl (QOp_pick_t _ _ _ _ rfl rfl rfl) ?_
        refine AOps_q 6 _ rfl rfl rfl (QOp_assign _ _ rfl rfl) ?_
        refine AOps_nil ?_
        cases h
        exact Weak_keep 0 hm [6] [] _ _ rfl rfl rfl
      · have h := iteF hb4 h
        refine AOps_skip 16 rfl rfl rfl ?_
        refine AOps_skip 17 rfl rfl rfl ?_
        refine AOps_skip 18 rfl rfl rfl ?_
        refine AOps_q 19 _ rfl rfl rfl (QOp_pick_f _ _ _ _ rfl rfl rfl) ?_
        refine AOps_q 6 _ rfl rfl rfl (QOp_assign _ _ rfl rfl) ?_
        refine AOps_nil ?_
        cases h
        exact Weak_keep 0 hm [6] [] _ _ rfl rfl rfl
    · have h := iteF hb2 h
      refine AOps_skip 11 rfl rfl rfl ?_
      refine AOps_skip 12 rfl rfl rfl ?_
      refine AOps_skip 13 rfl rfl rfl ?_
      refine AOps_q 14 _ rfl rfl rfl (QOp_pick_f _ _ _ _ rfl rfl rfl) ?_
      refine AOps_q 15 _ rfl rfl rfl (QOp_move _ _ rfl rfl) ?_
      refine AOps_skip 16 rfl rfl rfl ?_
      refine AOps_skip 17 rfl rfl rfl ?_
      refine AOps_skip 18 rfl rfl rfl ?_
      refine AOps_q 19 _ rfl rfl rfl (QOp_pick_f _ _ _ _ rfl rfl rfl) ?_
      refine AOps_q 6 _ rfl rfl rfl (QOp_assign _ _ rfl rfl) ?_
      refine AOps_nil ?_
      cases h
      exact Weak_keep 0 hm [6] [] _ _ rfl rfl rfl
  intro E' H' hw
  refine ACode_weak hw ?_
  have h := hks5
  refine ACode_ret ?_
  cases h
  exact ⟨_, _, fun r a w h => ⟨r, h⟩, _, _, [], _, (.cons (ResV_tmp _ _ rfl) .nil), rfl, rfl, rfl, rfl, rfl⟩

-- loop.example/g01362/impl.ColourOf$1
def impl_ColourOf_c1 (p0 : Col) (p1 : Int) (p2 : Int) : Bool :=
  (impl_Colouring_hasTwo p0 p1 p2)
set_option maxRecDepth 100000 in
theorem impl_ColourOf_c1_ac (p0 : Col) (p1 : Int) (p2 : Int) : AC Try.prog 74 [.d (.pv (colD p0) 0), .d (.pv ([iD p1]) 0), .d (.pv ([iD p2]) 0)] [] (fun res H' => res = [bV (impl_ColourOf_c1 p0 p1 p2)] ∧ H' = []) := by
  refine AC_of_body true Try.func74 rfl Try.ntmps74 (rvs := [.tmp 3]) rfl rfl (fun G hG => ?_)
  have hm : G.H.length = 0 := by rw [hG]; rfl
  have hz : zeroG G.H = true := by rw [hG]; rfl
  obtain ⟨r, h⟩ : ∃ r, impl_ColourOf_c1 p0 p1 p2 = r := ⟨_, rfl⟩
  rw [h]
  unfold impl_ColourOf_c1 at h
  refine ACode_seq (ACode_region ?_)
  refine AOps_q 3 _ rfl rfl rfl (QOp_assign _ _ rfl rfl) ?_
  refine AOps_nil ?_
  refine ACode_seq (ACode_region ?_)
  refine AOps_q 4 _ rfl rfl rfl (QOp_load_pv _ _ _ _ _ rfl Try.isAgg2 rfl rfl) ?_
  refine AOps_q 5 _ rfl rfl rfl (QOp_load_pv _ _ _ _ _ rfl Try.isAgg2 rfl rfl) ?_
  refine AOps_call [] 6 _ _ _ _ _ _ _ _ _ _ rfl rfl rfl rfl rfl rfl rfl Try.call75 rfl (nodupB_sound _ rfl) rfl rfl rfl (impl_Colouring_hasTwo_ac p0 p1 p2) ?_
  rintro _ _ ⟨rfl, rfl⟩
  refine ⟨(fun _ h => nomatch h), (allc (trivial) (fun _ h => nomatch h)), AOps_as 6 (v' := bV (impl_Colouring_hasTwo p0 p1 p2)) (H' := []) rfl rfl ?_⟩
  refine AOps_q 3 _ rfl rfl rfl (QOp_assign _ _ rfl rfl) ?_
  refine AOps_nil ?_
  refine ACode_ret ?_
  cases h
  exact ⟨_, _, fun r a w h => ⟨r, h⟩, _, _, [], _, (.cons (ResV_tmp _ _ rfl) .nil), rfl, rfl, rfl, rfl, rfl⟩

-- loop.example/g01362/impl.ColourOf
def impl_ColourOf (k : Nat) (p0 : Col) (p1 : Int) (p2 : Int) : Option (Int × Int) :=
  (impl_Colouring_code k p0 (some (impl_ColourOf_c1 p0 p1 p2))).bind fun r1 => (if !decide (r1 = 0) then some (0, r1) else (impl_Colouring_at p0 p1 p2).bind fun r3 => some (r3, 0))
set_option maxRecDepth 100000 in
theorem impl_ColourOf_ac (k : Nat) (p0 : Col) (p1 : Int) (p2 : Int) (r : Int × Int) (h : impl_ColourOf k p0 p1 p2 = some r) : AC Try.prog 22 [.d (.agg (colD p0)), iV p1, iV p2] [] (fun res H' => res = [iV r.1, iV r.2] ∧ H' = []) := by
  refine AC_of_body true Try.func22 rfl Try.ntmps22 (rvs := [.tmp 6, .tmp 7]) rfl rfl (fun G hG => ?_)
  have hm : G.H.length = 0 := by rw [hG]; rfl
  have hz : zeroG G.H = true := by rw [hG]; rfl
  unfold impl_ColourOf at h
  refine ACode_seq (ACode_region ?_)
  refine AOps_boxI 3 _ _ (.agg (colD p0)) (colD p0) rfl (colD_one _) rfl rfl rfl rfl rfl ?_
  refine AOps_boxI 4 _ _ (iD p1) _ rfl (fun c hc => by cases hc with | head => rfl | tail _ h => cases h) rfl rfl rfl rfl rfl ?_
  refine AOps_boxI 5 _ _ (iD p2) _ rfl (fun c hc => by cases hc with | head => rfl | tail _ h => cases h) rfl rfl rfl rfl rfl ?_
  refine AOps_q 6 _ rfl rfl rfl (QOp_assign _ _ rfl rfl) ?_
  refine AOps_q 7 _ rfl rfl rfl (QOp_assign _ _ rfl rfl) ?_
  refine AOps_nil ?_
  refine ACode_seq ?_
  refine ACode_seq (ACode_region ?_)
  refine AOps_q 9 _ rfl rfl rfl (QOp_makeFuncD _ _ _ _ rfl rfl rfl) ?_
  obtain ⟨r1, hr1, h⟩ := bindO h
  refine AOps_call [] 10 _ _ _ _ _ _ _ _ _ _ rfl rfl rfl rfl rfl rfl rfl Try.call68 rfl (nodupB_sound _ rfl) rfl rfl rfl (impl_Colouring_code_ac k p0 (some (impl_ColourOf_c1 p0 p1 p2)) 74 ([.pv (colD p0) 0, .pv ([iD p1]) 0, .pv ([iD p2]) 0]) Try.call74 (fun r h => by cases h; exact impl_ColourOf_c1_ac p0 p1 p2) _ hr1) ?_
  rintro _ _ ⟨rfl, rfl⟩
  refine ⟨(fun _ h => nomatch h), (allc (trivial) (fun _ h => nomatch h)), AOps_as 10 (v' := iV r1) (H' := []) rfl rfl ?_⟩
  refine AOps_q 8 _ rfl rfl rfl (QOp_assign _ _ rfl rfl) ?_
  refine AOps_nil ?_
  refine ACode_seq (ACode_region ?_)
  refine AOps_q 11 _ rfl rfl rfl (QOp_move _ _ rfl rfl) ?_
  refine AOps_q 12 _ rfl rfl rfl (QOp_neq _ _ _ _ _ _ _ rfl rfl rfl) ?_
  refine AOps_nil ?_
  refine ACode_cond _ rfl (fun hb2 => ?_) (fun hb2 => ?_)
  · have h := iteT hb2 h
    refine ACode_seq (ACode_region ?_)
    refine AOps_q 13 _ rfl rfl rfl (QOp_move _ _ rfl rfl) ?_
    refine AOps_q 6 _ rfl rfl rfl (QOp_assign _ _ rfl rfl) ?_
    refine AOps_q 7 _ rfl rfl rfl (QOp_assign _ _ rfl rfl) ?_
    refine AOps_nil ?_
    refine ACode_ret ?_
    cases h
    exact ⟨_, _, fun r a w h => ⟨r, h⟩, _, _, [], _, (.cons (ResV_tmp _ _ rfl) (.cons (ResV_tmp _ _ rfl) .nil)), rfl, rfl, rfl, rfl, rfl⟩
  · have h := iteF hb2 h
    refine ACode_skip ?_
    refine ACode_seq (ACode_region ?_)
    refine AOps_q 14 _ rfl rfl rfl (QOp_load_pv _ _ _ _ _ rfl Try.isAgg2 rfl rfl) ?_
    refine AOps_q 15 _ rfl rfl rfl (QOp_load_pv _ _ _ _ _ rfl Try.isAgg2 rfl rfl) ?_
    obtain ⟨r3, hr3, h⟩ := bindO h
    refine AOps_call [] 16 _ _ _ _ _ _ _ _ _ _ rfl rfl rfl rfl rfl rfl rfl Try.call51 rfl (nodupB_sound _ rfl) rfl rfl rfl (impl_Colouring_at_ac p0 p1 p2 _ hr3) ?_
    rintro _ _ ⟨rfl, rfl⟩
    refine ⟨(fun _ h => nomatch h), (allc (trivial) (fun _ h => nomatch h)), AOps_as 16 (v' := iV r3) (H' := []) rfl rfl ?_⟩
    refine AOps_q 6 _ rfl rfl rfl (QOp_assign _ _ rfl rfl) ?_
    refine AOps_q 7 _ rfl rfl rfl (QOp_assign _ _ rfl rfl) ?_
    refine AOps_nil ?_
    refine ACode_ret ?_
    cases h
    exact ⟨_, _, fun r a w h => ⟨r, h⟩, _, _, [], _, (.cons (ResV_tmp _ _ rfl) (.cons (ResV_tmp _ _ rfl) .nil)), rfl, rfl, rfl, rfl, rfl⟩

-- (*loop.example/g01362/impl.Colouring).isSet
def impl_Colouring_isSet_l0 (p0 : Col) (p1 : List Int) : Nat → Int → Option (Sum (Unit) (Bool))
  | 0, _ => none
  | k0 + 1, x1 => (if decide (x1 < (p1.length : Int)) then ((if 0 ≤ x1 ∧ x1 < (p1.length : Int) then ((if !(impl_Colouring_has p0 (p1.getD x1.toNat 0)) then some true else (if decide (0 < x1) then (if 0 ≤ w64 (x1 - 1) ∧ w64 (x1 - 1) < (p1.length : Int) then some (decide ((p1.getD x1.toNat 0) ≤ (p1.getD (w64 (x1 - 1)).toNat 0))) else none) else some false)) : Option (Bool)).bind fun s8 => (if s8 then (some (.inr false)).bind fun rr => some (.inr rr) else some (.inl ())) else none) : Option (Sum (Unit) (Sum (Unit) (Bool)))).bind fun os10 => (match os10 with | .inl s10 => impl_Colouring_isSet_l0 p0 p1 k0 (w64 (x1 + 1)) | .inr rr => some rr) else some (.inl ()))
def impl_Colouring_isSet (k : Nat) (p0 : Col) (p1 : List Int) : Option (Bool) :=
  (impl_Colouring_isSet_l0 p0 p1 k 0 : Option (Sum (Unit) (Bool))).bind fun os11 => (match os11 with | .inl s11 => some true | .inr rr => some rr)
set_option maxRecDepth 100000 in
theorem impl_Colouring_isSet_ac (k : Nat) (p0 : Col) (p1 : List Int) (r : Bool) (h : impl_Colouring_isSet k p0 p1 = some r) : AC Try.prog 78 [.d (.pv (colD p0) 0), .d (.sl none (intsD p1))] [] (fun res H' => res = [bV r] ∧ H' = []) := by
  refine AC_of_body true Try.func78 rfl Try.ntmps78 (rvs := [.tmp 4]) rfl rfl (fun G hG => ?_)
  have hm : G.H.length = 0 := by rw [hG]; rfl
  have hz : zeroG G.H = true := by rw [hG]; rfl
  unfold impl_Colouring_isSet at h
  refine ACode_seq (ACode_region ?_)
  refine AOps_q 4 _ rfl rfl rfl (QOp_assign _ _ rfl rfl) ?_
  refine AOps_nil ?_
  obtain ⟨os11, hss11, hks11⟩ := bindO h
  clear h
  refine ACode_seqJ (fun E' H' => ∃ s11 : Unit, os11 = .inl s11 ∧ Weak 32 G E' H' [] []) ?_ ?_
  · have h := hss11
    clear hss11
    refine ACode_seq (ACode_region ?_)
    refine AOps_q 7 _ rfl rfl rfl (QOp_move _ _ rfl rfl) ?_
    refine AOps_q 8 _ rfl rfl rfl (QOp_len_sl _ _ _ _ _ _ _ (intsD_length _) rfl rfl rfl rfl Try.underlying29 rfl) ?_
    refine AOps_q 9 _ rfl rfl rfl (QOp_move _ _ rfl rfl) ?_
    refine AOps_nil ?_
    refine ACode_block ?_
    refine ACode_loopW (fun k0 E H => ∃ (x1 : Int), E = [(0, .d (.pv (colD p0) 0)), (1, .d (.sl none (intsD p1))), (7, .d (.sl none (intsD p1))), (8, iV (p1.length : Int)), (9, iV x1)] ∧ H = [] ∧ impl_Colouring_isSet_l0 p0 p1 k0 x1 = some os11) k _ _ (Weak_keep 0 hm [0, 1, 7, 8, 9] [] _ _ rfl rfl rfl) ⟨_, rfl, rfl, h⟩ ?_
    clear h
    rintro k0 E H ⟨x1, rfl, rfl, h⟩
    cases k0 with
    | zero => cases (show (none : Option (Sum (Unit) (Bool))) = some _ from h)
    | succ k0 =>
      rw [impl_Colouring_isSet_l0] at h
      refine ACode_seq (ACode_region ?_)
      refine AOps_q 10 _ rfl rfl rfl (QOp_lss _ _ _ _ _ _ _ rfl rfl rfl) ?_
      refine AOps_nil ?_
      refine ACode_seq ?_
      refine ACode_cond _ rfl (fun hb2 => ?_) (fun hb2 => ?_)
      · have h := iteT hb2 h
        refine ACode_skip ?_
        obtain ⟨os10, hss10, hks10⟩ := bindO h
        clear h
        refine ACode_seqJ (fun E' H' => ∃ s10 : Unit, os10 = .inl s10 ∧ Weak 32 G E' H' [(0, .d (.pv (colD p0) 0)), (1, .d (.sl none (intsD p1))), (7, .d (.sl none (intsD p1))), (8, iV (p1.length : Int)), (9, iV x1)] []) ?_ ?_
        · have h := hss10
          clear hss10
          refine ACode_block ?_
          refine ACode_seq (ACode_region ?_)
          refine AOps_q 11 _ rfl rfl rfl (QOp_move _ _ rfl rfl) ?_
          obtain ⟨hc3, h⟩ := guardO h
          refine AOps_q 12 _ rfl rfl rfl (QOp_indexAddr_sl _ _ _ _ _ _ _ _ rfl Try.underlying29 Try.sizeOf2 hc3.1 (by rw [intsD_length]; exact hc3.2) rfl rfl) ?_
          refine AOps_q 13 _ rfl rfl rfl (QOp_load_pv _ _ _ _ _ rfl Try.isAgg2 rfl (intsD_get _ _ 0 (by omega))) ?_
          refine AOps_q 5 _ rfl rfl rfl (QOp_assign _ _ rfl rfl) ?_
          refine AOps_q 6 _ rfl rfl rfl (QOp_assign _ _ rfl rfl) ?_
          refine AOps_nil ?_
          obtain ⟨s8, hss8, hks8⟩ := bindO h
          clear h
          refine ACode_seqJ (fun E' H' => Weak 32 G E' H' [(0, .d (.pv (colD p0) 0)), (1, .d (.sl none (intsD p1))), (7, .d (.sl none (intsD p1))), (8, iV (p1.length : Int)), (9, iV x1), (30, bV s8)] []) ?_ ?_
          · have h := hss8
            clear hss8
            refine (ACode_region ?_)
            refine AOps_q 14 _ rfl rfl rfl (QOp_move _ _ rfl rfl) ?_
            refine AOps_q 15 _ rfl rfl rfl (QOp_move _ _ rfl rfl) ?_
            refine AOps_call [] 16 _ _ _ _ _ _ _ _ _ _ rfl rfl rfl rfl rfl rfl rfl Try.call116 rfl (nodupB_sound _ rfl) rfl rfl rfl (impl_Colouring_has_ac p0 (p1.getD x1.toNat 0)) ?_
            rintro _ _ ⟨rfl, rfl⟩
            refine ⟨(fun _ h => nomatch h), (allc (trivial) (fun _ h => nomatch h)), AOps_as 16 (v' := bV (impl_Colouring_has p0 (p1.getD x1.toNat 0))) (H' := []) rfl rfl ?_⟩
            refine AOps_q 17 _ rfl rfl rfl (QOp_not _ _ _ rfl rfl) ?_
            refine AOps_q 18 _ rfl rfl rfl (QOp_move _ _ rfl rfl) ?_
            refine AOps_case 18 _ rfl (fun hb5 => ?_) (fun hb5 => ?_)
            · have h := iteT hb5 h
              refine AOps_skip 19 rfl rfl rfl ?_
              refine AOps_skip 20 rfl rfl rfl ?_
              refine AOps_skip 21 rfl rfl rfl ?_
              refine AOps_skip 22 rfl rfl rfl ?_
              refine AOps_skip 23 rfl rfl rfl ?_
              refine AOps_skip 24 rfl rfl rfl ?_
              refine AOps_skip 25 rfl rfl rfl ?_
              refine AOps_skip 26 rfl rfl rfl ?_
              refine AOps_skip 27 rfl rfl rfl ?_
              refine AOps_skip 28 rfl rfl rfl ?_
              refine AOps_skip 29 rfl rfl rfl ?_
              refine AOps_q 30 _ rfl rfl rfl (QOp_pick_t _ _ _ _ rfl rfl rfl) ?_
              refine AOps_nil ?_
              cases h
              exact Weak_keep 0 hm [0, 1, 7, 8, 9, 30] [] _ _ rfl rfl rfl
            · have h := iteF hb5 h
              refine AOps_q 19 _ rfl rfl rfl (QOp_move _ _ rfl rfl) ?_
              refine AOps_q 20 _ rfl rfl rfl (QOp_gtr _ _ _ _ _ _ _ rfl rfl rfl) ?_
              refine AOps_q 21 _ rfl rfl rfl (QOp_move _ _ rfl rfl) ?_
              refine AOps_case 21 _ rfl (fun hb6 => ?_) (fun hb6 => ?_)
              · have h := iteT hb6 h
                refine AOps_q 22 _ rfl rfl rfl (QOp_move _ _ rfl rfl) ?_
                refine AOps_q 23 _ rfl rfl rfl (QOp_move _ _ rfl rfl) ?_
                refine AOps_q 24 _ rfl rfl rfl (QOp_sub _ _ _ _ _ _ _ rfl rfl rfl) ?_
                obtain ⟨hc7, h⟩ := guardO h
                refine AOps_q 25 _ rfl rfl rfl (QOp_indexAddr_sl _ _ _ _ _ _ _ _ rfl Try.underlying29 Try.sizeOf2 hc7.1 (by rw [intsD_length]; exact hc7.2) rfl rfl) ?_
                refine AOps_q 26 _ rfl rfl rfl (QOp_load_pv _ _ _ _ _ rfl Try.isAgg2 rfl (intsD_get _ _ 0 (by omega))) ?_
                refine AOps_q 27 _ rfl rfl rfl (QOp_move _ _ rfl rfl) ?_
                refine AOps_q 28 _ rfl rfl rfl (QOp_geq _ _ _ _ _ _ _ rfl rfl rfl) ?_
                refine AOps_q 29 _ rfl rfl rfl (QOp_pick_t _ _ _ _ rfl rfl rfl) ?_
                refine AOps_q 30 _ rfl rfl rfl (QOp_pick_f _ _ _ _ rfl rfl rfl) ?_
                refine AOps_nil ?_
                cases h
                exact Weak_keep 0 hm [0, 1, 7, 8, 9, 30] [] _ _ rfl rfl rfl
              · have h := iteF hb6 h
                refine AOps_skip 22 rfl rfl rfl ?_
                refine AOps_skip 23 rfl rfl rfl ?_
                refine AOps_skip 24 rfl rfl rfl ?_
                refine AOps_skip 25 rfl rfl rfl ?_
                refine AOps_skip 26 rfl rfl rfl ?_
                refine AOps_skip 27 rfl rfl rfl ?_
                refine AOps_skip 28 rfl rfl rfl ?_
                refine AOps_q 29 _ rfl rfl rfl (QOp_pick_f _ _ _ _ rfl rfl rfl) ?_
                refine AOps_q 30 _ rfl rfl rfl (QOp_pick_f _ _ _ _ rfl rfl rfl) ?_
                refine AOps_nil ?_
                cases h
                exact Weak_keep 0 hm [0, 1, 7, 8, 9, 30] [] _ _ rfl rfl rfl
          intro E' H' hw
          refine ACode_weak hw ?_
          have h := hks8
          refine ACode_cond _ rfl (fun hb9 => ?_) (fun hb9 => ?_)
          · have h := iteT hb9 h
            refine ACode_seq (ACode_region ?_)
            refine AOps_q 4 _ rfl rfl rfl (QOp_assign _ _ rfl rfl) ?_
            refine AOps_nil ?_
            refine ACode_ret ?_
            obtain ⟨rr, hz12, h2⟩ := bindO h
            obtain rfl := Option.some.inj h2
            obtain rfl := Option.some.inj (show some rr = some _ from hks10)
            have h := hz12
            cases h
            have h := hks11
            cases h
            exact ⟨_, _, fun r a w h => ⟨r, h⟩, _, _, [], _, (.cons (ResV_tmp _ _ rfl) .nil), rfl, rfl, rfl, rfl, rfl⟩
          · have h := iteF hb9 h
            refine ACode_skip ?_
            cases h
            exact ⟨_, rfl, Weak_keep 0 hm [0, 1, 7, 8, 9] [] _ _ rfl rfl rfl⟩
        rintro E' H' ⟨s10, rfl, hw⟩
        refine ACode_weak hw ?_
        have h := hks10
        refine (ACode_region ?_)
        refine AOps_q 31 _ rfl rfl rfl (QOp_add _ _ _ _ _ _ _ rfl rfl rfl) ?_
        refine AOps_q 9 _ rfl rfl rfl (QOp_move _ _ rfl rfl) ?_
        refine AOps_nil ?_
        exact ⟨k0, _, _, Nat.lt_succ_self _, Weak_keep 0 hm [0, 1, 7, 8, 9] [] _ _ rfl rfl rfl, _, rfl, rfl, h⟩
      · have h := iteF hb2 h
        refine ACode_exit ?_
        cases h
        exact ⟨_, rfl, Weak_keep 0 hm [] [] _ _ rfl rfl rfl⟩
  rintro E' H' ⟨s11, rfl, hw⟩
  refine ACode_weak hw ?_
  have h := hks11
  refine ACode_seq (ACode_region ?_)
  refine AOps_q 4 _ rfl rfl rfl (QOp_assign _ _ rfl rfl) ?_
  refine AOps_nil ?_
  refine ACode_ret ?_
  cases h
  exact ⟨_, _, fun r a w h => ⟨r, h⟩, _, _, [], _, (.cons (ResV_tmp _ _ rfl) .nil), rfl, rfl, rfl, rfl, rfl⟩

-- loop.example/g01362/impl.IsClique$1
def impl_IsClique_c1 (k : Nat) (p0 : Col) (p1 : Int) (p2 : List Int) : Option (Bool) :=
  ((if (impl_Colouring_hasColour p0 p1) then (impl_Colouring_isSet k p0 p2).bind fun r3 => some r3 else some false) : Option (Bool)).bind fun s4 => some s4
set_option maxRecDepth 100000 in
theorem impl_IsClique_c1_ac (k : Nat) (p0 : Col) (p1 : Int) (p2 : List Int) (r : Bool) (h : impl_IsClique_c1 k p0 p1 p2 = some r) : AC Try.prog 76 [.d (.pv (colD p0) 0), .d (.pv ([iD p1]) 0), .d (.pv ([.sl none (intsD p2)]) 0)] [] (fun res H' => res = [bV r] ∧ H' = []) := by
  refine AC_of_body true Try.func76 rfl Try.ntmps76 (rvs := [.tmp 3]) rfl rfl (fun G hG => ?_)
  have hm : G.H.length = 0 := by rw [hG]; rfl
  have hz : zeroG G.H = true := by rw [hG]; rfl
  unfold impl_IsClique_c1 at h
  refine ACode_seq (ACode_region ?_)
  refine AOps_q 3 _ rfl rfl rfl (QOp_assign _ _ rfl rfl) ?_
  refine AOps_nil ?_
  obtain ⟨s4, hss4, hks4⟩ := bindO h
  clear h
  refine ACode_seqJ (fun E' H' => Weak 10 G E' H' [(3, bV s4)] []) ?_ ?_
  · have h := hss4
    clear hss4
    refine (ACode_region ?_)
    refine AOps_q 4 _ rfl rfl rfl (QOp_load_pv _ _ _ _ _ rfl Try.isAgg2 rfl rfl) ?_
    refine AOps_call [] 5 _ _ _ _ _ _ _ _ _ _ rfl rfl rfl rfl rfl rfl rfl Try.call77 rfl (nodupB_sound _ rfl) rfl rfl rfl (impl_Colouring_hasColour_ac p0 p1) ?_
    rintro _ _ ⟨rfl, rfl⟩
    refine ⟨(fun _ h => nomatch h), (allc (trivial) (fun _ h => nomatch h)), AOps_as 5 (v' := bV (impl_Colouring_hasColour p0 p1)) (H' := []) rfl rfl ?_⟩
    refine AOps_q 6 _ rfl rfl rfl (QOp_move _ _ rfl rfl) ?_
    refine AOps_case 6 _ rfl (fun hb2 => ?_) (fun hb2 => ?_)
    · have h := iteT hb2 h
      refine AOps_q 7 _ rfl rfl rfl (QOp_load_pv _ _ _ _ _ rfl Try.isAgg29 rfl rfl) ?_
      obtain ⟨r3, hr3, h⟩ := bindO h
      refine AOps_call [] 8 _ _ _ _ _ _ _ _ _ _ rfl rfl rfl rfl rfl rfl rfl Try.call78 rfl (nodupB_sound _ rfl) rfl rfl rfl (impl_Colouring_isSet_ac k p0 p2 _ hr3) ?_
      rintro _ _ ⟨rfl, rfl⟩
      refine ⟨(fun _ h => nomatch h), (allc (trivial) (fun _ h => nomatch h)), AOps_as 8 (v' := bV r3) (H' := []) rfl rfl ?_⟩
      refine AOps_q 9 _ rfl rfl rfl (QOp_pick_t _ _ _ _ rfl rfl rfl) ?_
      refine AOps_q 3 _ rfl rfl rfl (QOp_assign _ _ rfl rfl) ?_
      refine AOps_nil ?_
      cases h
      exact Weak_keep 0 hm [3] [] _ _ rfl rfl rfl
    · have h := iteF hb2 h
      refine AOps_skip 7 rfl rfl rfl ?_
      refine AOps_skip 8 rfl rfl rfl ?_
      refine AOps_q 9 _ rfl rfl rfl (QOp_pick_f _ _ _ _ rfl rfl rfl) ?_
      refine AOps_q 3 _ rfl rfl rfl (QOp_assign _ _ rfl rfl) ?_
      refine AOps_nil ?_
      cases h
      exact Weak_keep 0 hm [3] [] _ _ rfl rfl rfl
  intro E' H' hw
  refine ACode_weak hw ?_
  have h := hks4
  refine ACode_ret ?_
  cases h
  exact ⟨_, _, fun r a w h => ⟨r, h⟩, _, _, [], _, (.cons (ResV_tmp _ _ rfl) .nil), rfl, rfl, rfl, rfl, rfl⟩

-- slices.IndexFunc[[]int64,int64]
def slices_IndexFunc_l0 (p0 : List Int) (p1 : Int → Option (Bool)) : Nat → Int → Option (Sum (Unit) (Int))
  | 0, _ => none
  | k0 + 1, x1 => (if decide (x1 < (p0.length : Int)) then (if 0 ≤ x1 ∧ x1 < (p0.length : Int) then (p1 (p0.getD x1.toNat 0)).bind fun r4 => (if r4 then some (.inr x1) else slices_IndexFunc_l0 p0 p1 k0 (w64 (x1 + 1))) else none) else some (.inl ()))
def slices_IndexFunc (k : Nat) (p0 : List Int) (p1 : Int → Option (Bool)) : Option (Int) :=
  (slices_IndexFunc_l0 p0 p1 k 0 : Option (Sum (Unit) (Int))).bind fun os6 => (match os6 with | .inl s6 => some (-1) | .inr rr => some rr)
set_option maxRecDepth 100000 in
theorem slices_IndexFunc_ac (k : Nat) (p0 : List Int) (p1 : Int → Option (Bool)) (g_p1 : FuncId) (c_p1 : List D) (hg_p1 : ∀ args w, (callFunc g_p1 args).run Try.prog w = .ok (.enter g_p1 args) w) (hf_p1 : ∀ (a0 : Int) (r : Bool), p1 a0 = some r → AC Try.prog g_p1 ([iV a0] ++ c_p1.map AV.d) [] (fun res H' => res = [bV r] ∧ H' = [])) (r : Int) (h : slices_IndexFunc k p0 p1 = some r) : AC Try.prog 144 [.d (.sl none (intsD p0)), .d (.clo g_p1 c_p1)] [] (fun res H' => res = [iV r] ∧ H' = []) := by
  refine AC_of_body true Try.func144 rfl Try.ntmps144 (rvs := [.tmp 4]) rfl rfl (fun G hG => ?_)
  have hm : G.H.length = 0 := by rw [hG]; rfl
  have hz : zeroG G.H = true := by rw [hG]; rfl
  unfold slices_IndexFunc at h
  refine ACode_seq (ACode_region ?_)
  refine AOps_q 4 _ rfl rfl rfl (QOp_assign _ _ rfl rfl) ?_
  refine AOps_nil ?_
  obtain ⟨os6, hss6, hks6⟩ := bindO h
  clear h
  refine ACode_seqJ (fun E' H' => ∃ s6 : Unit, os6 = .inl s6 ∧ Weak 19 G E' H' [] []) ?_ ?_
  · have h := hss6
    clear hss6
    refine ACode_seq (ACode_region ?_)
    refine AOps_q 6 _ rfl rfl rfl (QOp_move _ _ rfl rfl) ?_
    refine AOps_q 7 _ rfl rfl rfl (QOp_len_sl _ _ _ _ _ _ _ (intsD_length _) rfl rfl rfl rfl Try.underlying29 rfl) ?_
    refine AOps_q 8 _ rfl rfl rfl (QOp_move _ _ rfl rfl) ?_
    refine AOps_nil ?_
    refine ACode_block ?_
    refine ACode_loopW (fun k0 E H => ∃ (x1 : Int), E = [(0, .d (.sl none (intsD p0))), (1, .d (.clo g_p1 c_p1)), (7, iV (p0.length : Int)), (8, iV x1)] ∧ H = [] ∧ slices_IndexFunc_l0 p0 p1 k0 x1 = some os6) k _ _ (Weak_keep 0 hm [0, 1, 7, 8] [] _ _ rfl rfl rfl) ⟨_, rfl, rfl, h⟩ ?_
    clear h
    rintro k0 E H ⟨x1, rfl, rfl, h⟩
    cases k0 with
    | zero => cases (show (none : Option (Sum (Unit) (Int))) = some _ from h)
    | succ k0 =>
      rw [slices_IndexFunc_l0] at h
      refine ACode_seq (ACode_region ?_)
      refine AOps_q 9 _ rfl rfl rfl (QOp_lss _ _ _ _ _ _ _ rfl rfl rfl) ?_
      refine AOps_nil ?_
      refine ACode_seq ?_
      refine ACode_cond _ rfl (fun hb2 => ?_) (fun hb2 => ?_)
      · have h := iteT hb2 h
        refine ACode_skip ?_
        refine ACode_seq ?_
        refine ACode_block ?_
        refine ACode_seq (ACode_region ?_)
        refine AOps_q 10 _ rfl rfl rfl (QOp_move _ _ rfl rfl) ?_
        refine AOps_q 5 _ rfl rfl rfl (QOp_assign _ _ rfl rfl) ?_
        refine AOps_nil ?_
        refine ACode_seq (ACode_region ?_)
        refine AOps_q 11 _ rfl rfl rfl (QOp_move _ _ rfl rfl) ?_
        refine AOps_q 12 _ rfl rfl rfl (QOp_move _ _ rfl rfl) ?_
        refine AOps_q 13 _ rfl rfl rfl (QOp_move _ _ rfl rfl) ?_
        obtain ⟨hc3, h⟩ := guardO h
        refine AOps_q 14 _ rfl rfl rfl (QOp_indexAddr_sl _ _ _ _ _ _ _ _ rfl Try.underlying29 Try.sizeOf2 hc3.1 (by rw [intsD_length]; exact hc3.2) rfl rfl) ?_
        refine AOps_q 15 _ rfl rfl rfl (QOp_load_pv _ _ _ _ _ rfl Try.isAgg2 rfl (intsD_get _ _ 0 (by omega))) ?_
        obtain ⟨r4, hr4, h⟩ := bindO h
        refine AOps_call [] 16 _ _ _ _ _ _ _ _ _ _ rfl rfl rfl rfl rfl rfl rfl hg_p1 rfl (nodupB_sound _ rfl) rfl rfl (viewA_mapD _) (hf_p1 (p0.getD x1.toNat 0) _ hr4) ?_
        rintro _ _ ⟨rfl, rfl⟩
        refine ⟨(fun _ h => nomatch h), (allc (trivial) (fun _ h => nomatch h)), AOps_as 16 (v' := bV r4) (H' := []) rfl rfl ?_⟩
        refine AOps_nil ?_
        refine ACode_cond _ rfl (fun hb5 => ?_) (fun hb5 => ?_)
        · have h := iteT hb5 h
          refine ACode_seq (ACode_region ?_)
          refine AOps_q 17 _ rfl rfl rfl (QOp_move _ _ rfl rfl) ?_
          refine AOps_q 4 _ rfl rfl rfl (QOp_assign _ _ rfl rfl) ?_
          refine AOps_nil ?_
          refine ACode_ret ?_
          cases h
          have h := hks6
          cases h
          exact ⟨_, _, fun r a w h => ⟨r, h⟩, _, _, [], _, (.cons (ResV_tmp _ _ rfl) .nil), rfl, rfl, rfl, rfl, rfl⟩
        · have h := iteF hb5 h
          refine ACode_skip ?_
          refine (ACode_region ?_)
          refine AOps_q 18 _ rfl rfl rfl (QOp_add _ _ _ _ _ _ _ rfl rfl rfl) ?_
          refine AOps_q 8 _ rfl rfl rfl (QOp_move _ _ rfl rfl) ?_
          refine AOps_nil ?_
          exact ⟨k0, _, _, Nat.lt_succ_self _, Weak_keep 0 hm [0, 1, 7, 8] [] _ _ rfl rfl rfl, _, rfl, rfl, h⟩
      · have h := iteF hb2 h
        refine ACode_exit ?_
        cases h
        exact ⟨_, rfl, Weak_keep 0 hm [] [] _ _ rfl rfl rfl⟩
  rintro E' H' ⟨s6, rfl, hw⟩
  refine ACode_weak hw ?_
  have h := hks6
  refine ACode_seq (ACode_region ?_)
  refine AOps_q 4 _ rfl rfl rfl (QOp_assign _ _ rfl rfl) ?_
  refine AOps_nil ?_
  refine ACode_ret ?_
  cases h
  exact ⟨_, _, fun r a w h => ⟨r, h⟩, _, _, [], _, (.cons (ResV_tmp _ _ rfl) .nil), rfl, rfl, rfl, rfl, rfl⟩

-- slices.ContainsFunc[[]int64,int64]
def slices_ContainsFunc (k : Nat) (p0 : List Int) (p1 : Int → Option (Bool)) : Option (Bool) :=
  (slices_IndexFunc k p0 p1).bind fun r1 => some (decide (0 ≤ r1))
set_option maxRecDepth 100000 in
theorem slices_ContainsFunc_ac (k : Nat) (p0 : List Int) (p1 : Int → Option (Bool)) (g_p1 : FuncId) (c_p1 : List D) (hg_p1 : ∀ args w, (callFunc g_p1 args).run Try.prog w = .ok (.enter g_p1 args) w) (hf_p1 : ∀ (a0 : Int) (r : Bool), p1 a0 = some r → AC Try.prog g_p1 ([iV a0] ++ c_p1.map AV.d) [] (fun res H' => res = [bV r] ∧ H' = [])) (r : Bool) (h : slices_ContainsFunc k p0 p1 = some r) : AC Try.prog 131 [.d (.sl none (intsD p0)), .d (.clo g_p1 c_p1)] [] (fun res H' => res = [bV r] ∧ H' = []) := by
  refine AC_of_body true Try.func131 rfl Try.ntmps131 (rvs := [.tmp 4]) rfl rfl (fun G hG => ?_)
  have hm : G.H.length = 0 := by rw [hG]; rfl
  have hz : zeroG G.H = true := by rw [hG]; rfl
  unfold slices_ContainsFunc at h
  refine ACode_seq (ACode_region ?_)
  refine AOps_q 4 _ rfl rfl rfl (QOp_assign _ _ rfl rfl) ?_
  refine AOps_nil ?_
  refine ACode_seq (ACode_region ?_)
  refine AOps_q 5 _ rfl rfl rfl (QOp_move _ _ rfl rfl) ?_
  refine AOps_q 6 _ rfl rfl rfl (QOp_move _ _ rfl rfl) ?_
  obtain ⟨r1, hr1, h⟩ := bindO h
  refine AOps_call [] 7 _ _ _ _ _ _ _ _ _ _ rfl rfl rfl rfl rfl rfl rfl Try.call144 rfl (nodupB_sound _ rfl) rfl rfl rfl (slices_IndexFunc_ac k p0 p1 g_p1 c_p1 hg_p1 hf_p1 _ hr1) ?_
  rintro _ _ ⟨rfl, rfl⟩
  refine ⟨(fun _ h => nomatch h), (allc (trivial) (fun _ h => nomatch h)), AOps_as 7 (v' := iV r1) (H' := []) rfl rfl ?_⟩
  refine AOps_q 8 _ rfl rfl rfl (QOp_geq _ _ _ _ _ _ _ rfl rfl rfl) ?_
  refine AOps_q 4 _ rfl rfl rfl (QOp_assign _ _ rfl rfl) ?_
  refine AOps_nil ?_
  refine ACode_ret ?_
  cases h
  exact ⟨_, _, fun r a w h => ⟨r, h⟩, _, _, [], _, (.cons (ResV_tmp _ _ rfl) .nil), rfl, rfl, rfl, rfl, rfl⟩

-- (*loop.example/g01362/impl.Colouring).joins
def impl_Colouring_joins (p0 : Col) (p1 : Int) (p2 : Int) (p3 : Int) : Option (Bool) :=
  ((if !decide (p1 = p2) then (impl_Colouring_at p0 p1 p2).bind fun r2 => some (decide (r2 = p3)) else some false) : Option (Bool)).bind fun s3 => some s3
set_option maxRecDepth 100000 in
theorem impl_Colouring_joins_ac (p0 : Col) (p1 : Int) (p2 : Int) (p3 : Int) (r : Bool) (h : impl_Colouring_joins p0 p1 p2 p3 = some r) : AC Try.prog 129 [.d (.pv (colD p0) 0), iV p1, iV p2, iV p3] [] (fun res H' => res = [bV r] ∧ H' = []) := by
  refine AC_of_body true Try.func129 rfl Try.ntmps129 (rvs := [.tmp 8]) rfl rfl (fun G hG => ?_)
  have hm : G.H.length = 0 := by rw [hG]; rfl
  have hz : zeroG G.H = true := by rw [hG]; rfl
  unfold impl_Colouring_joins at h
  refine ACode_seq (ACode_region ?_)
  refine AOps_q 8 _ rfl rfl rfl (QOp_assign _ _ rfl rfl) ?_
  refine AOps_nil ?_
  obtain ⟨s3, hss3, hks3⟩ := bindO h
  clear h
  refine ACode_seqJ (fun E' H' => Weak 20 G E' H' [(8, bV s3)] []) ?_ ?_
  · have h := hss3
    clear hss3
    refine (ACode_region ?_)
    refine AOps_q 9 _ rfl rfl rfl (QOp_move _ _ rfl rfl) ?_
    refine AOps_q 10 _ rfl rfl rfl (QOp_move _ _ rfl rfl) ?_
    refine AOps_q 11 _ rfl rfl rfl (QOp_neq _ _ _ _ _ _ _ rfl rfl rfl) ?_
    refine AOps_q 12 _ rfl rfl rfl (QOp_move _ _ rfl rfl) ?_
    refine AOps_case 12 _ rfl (fun hb1 => ?_) (fun hb1 => ?_)
    · have h := iteT hb1 h
      refine AOps_q 13 _ rfl rfl rfl (QOp_move _ _ rfl rfl) ?_
      refine AOps_q 14 _ rfl rfl rfl (QOp_move _ _ rfl rfl) ?_
      refine AOps_q 15 _ rfl rfl rfl (QOp_move _ _ rfl rfl) ?_
      obtain ⟨r2, hr2, h⟩ := bindO h
      refine AOps_call [] 16 _ _ _ _ _ _ _ _ _ _ rfl rfl rfl rfl rfl rfl rfl Try.call51 rfl (nodupB_sound _ rfl) rfl rfl rfl (impl_Colouring_at_ac p0 p1 p2 _ hr2) ?_
      rintro _ _ ⟨rfl, rfl⟩
      refine ⟨(fun _ h => nomatch h), (allc (trivial) (fun _ h => nomatch h)), AOps_as 16 (v' := iV r2) (H' := []) rfl rfl ?_⟩
      refine AOps_q 17 _ rfl rfl rfl (QOp_move _ _ rfl rfl) ?_
      refine AOps_q 18 _ rfl rfl rfl (QOp_eql _ _ _ _ _ _ _ rfl rfl rfl) ?_
      refine AOps_q 19 _ rfl rfl rfl (QOp_pick_t _ _ _ _ rfl rfl rfl) ?_
      refine AOps_q 8 _ rfl rfl rfl (QOp_assign _ _ rfl rfl) ?_
      refine AOps_nil ?_
      cases h
      exact Weak_keep 0 hm [8] [] _ _ rfl rfl rfl
    · have h := iteF hb1 h
      refine AOps_skip 13 rfl rfl rfl ?_
      refine AOps_skip 14 rfl rfl rfl ?_
      refine AOps_skip 15 rfl rfl rfl ?_
      refine AOps_skip 16 rfl rfl rfl ?_
      refine AOps_skip 17 rfl rfl rfl ?_
      refine AOps_skip 18 rfl rfl rfl ?_
      refine AOps_q 19 _ rfl rfl rfl (QOp_pick_f _ _ _ _ rfl rfl rfl) ?_
      refine AOps_q 8 _ rfl rfl rfl (QOp_assign _ _ rfl rfl) ?_
      refine AOps_nil ?_
      cases h
      exact Weak_keep 0 hm [8] [] _ _ rfl rfl rfl
  intro E' H' hw
  refine ACode_weak hw ?_
  have h := hks3
  refine ACode_ret ?_
  cases h
  exact ⟨_, _, fun r a w h => ⟨r, h⟩, _, _, [], _, (.cons (ResV_tmp _ _ rfl) .nil), rfl, rfl, rfl, rfl, rfl⟩

-- (*loop.example/g01362/impl.Colouring).goesWith$1
def impl_Colouring_goesWith_c1 (p0 : Int) (p1 : Col) (p2 : Int) (p3 : Int) : Option (Bool) :=
  (impl_Colouring_joins p1 p0 p2 p3).bind fun r1 => some (!r1)
set_option maxRecDepth 100000 in
theorem impl_Colouring_goesWith_c1_ac (p0 : Int) (p1 : Col) (p2 : Int) (p3 : Int) (r : Bool) (h : impl_Colouring_goesWith_c1 p0 p1 p2 p3 = some r) : AC Try.prog 132 [iV p0, .d (.pv ([.pv (colD p1) 0]) 0), .d (.pv ([iD p2]) 0), .d (.pv ([iD p3]) 0)] [] (fun res H' => res = [bV r] ∧ H' = []) := by
  refine AC_of_body true Try.func132 rfl Try.ntmps132 (rvs := [.tmp 5]) rfl rfl (fun G hG => ?_)
  have hm : G.H.length = 0 := by rw [hG]; rfl
  have hz : zeroG G.H = true := by rw [hG]; rfl
  unfold impl_Colouring_goesWith_c1 at h
  refine ACode_seq (ACode_region ?_)
  refine AOps_q 5 _ rfl rfl rfl (QOp_assign _ _ rfl rfl) ?_
  refine AOps_nil ?_
  refine ACode_seq (ACode_region ?_)
  refine AOps_q 6 _ rfl rfl rfl (QOp_load_pv _ _ _ _ _ rfl Try.isAgg99 rfl rfl) ?_
  refine AOps_q 7 _ rfl rfl rfl (QOp_move _ _ rfl rfl) ?_
  refine AOps_q 8 _ rfl rfl rfl (QOp_load_pv _ _ _ _ _ rfl Try.isAgg2 rfl rfl) ?_
  refine AOps_q 9 _ rfl rfl rfl (QOp_load_pv _ _ _ _ _ rfl Try.isAgg2 rfl rfl) ?_
  obtain ⟨r1, hr1, h⟩ := bindO h
  refine AOps_call [] 10 _ _ _ _ _ _ _ _ _ _ rfl rfl rfl rfl rfl rfl rfl Try.call129 rfl (nodupB_sound _ rfl) rfl rfl rfl (impl_Colouring_joins_ac p1 p0 p2 p3 _ hr1) ?_
  rintro _ _ ⟨rfl, rfl⟩
  refine ⟨(fun _ h => nomatch h), (allc (trivial) (fun _ h => nomatch h)), AOps_as 10 (v' := bV r1) (H' := []) rfl rfl ?_⟩
  refine AOps_q 11 _ rfl rfl rfl (QOp_not _ _ _ rfl rfl) ?_
  refine AOps_q 5 _ rfl rfl rfl (QOp_assign _ _ rfl rfl) ?_
  refine AOps_nil ?_
  refine ACode_ret ?_
  cases h
  exact ⟨_, _, fun r a w h => ⟨r, h⟩, _, _, [], _, (.cons (ResV_tmp _ _ rfl) .nil), rfl, rfl, rfl, rfl, rfl⟩

-- (*loop.example/g01362/impl.Colouring).goesWith
def impl_Colouring_goesWith (k : Nat) (p0 : Col) (p1 : Int) (p2 : List Int) (p3 : Int) : Option (Bool) :=
  (slices_ContainsFunc k p2 (fun a0 => impl_Colouring_goesWith_c1 a0 p0 p3 p1)).bind fun r1 => some (!r1)
set_option maxRecDepth 100000 in
theorem impl_Colouring_goesWith_ac (k : Nat) (p0 : Col) (p1 : Int) (p2 : List Int) (p3 : Int) (r : Bool) (h : impl_Colouring_goesWith k p0 p1 p2 p3 = some r) : AC Try.prog 117 [.d (.pv (colD p0) 0), iV p1, .d (.sl none (intsD p2)), iV p3] [] (fun res H' => res = [bV r] ∧ H' = []) := by
  refine AC_of_body true Try.func117 rfl Try.ntmps117 (rvs := [.tmp 8]) rfl rfl (fun G hG => ?_)
  have hm : G.H.length = 0 := by rw [hG]; rfl
  have hz : zeroG G.H = true := by rw [hG]; rfl
  unfold impl_Colouring_goesWith at h
  refine ACode_seq (ACode_region ?_)
  refine AOps_boxI 4 _ _ (.pv (colD p0) 0) _ rfl (fun c hc => by cases hc with | head => rfl | tail _ h => cases h) rfl rfl rfl rfl rfl ?_
  refine AOps_boxI 5 _ _ (iD p1) _ rfl (fun c hc => by cases hc with | head => rfl | tail _ h => cases h) rfl rfl rfl rfl rfl ?_
  refine AOps_boxI 7 _ _ (iD p3) _ rfl (fun c hc => by cases hc with | head => rfl | tail _ h => cases h) rfl rfl rfl rfl rfl ?_
  refine AOps_q 8 _ rfl rfl rfl (QOp_assign _ _ rfl rfl) ?_
  refine AOps_nil ?_
  refine ACode_seq (ACode_region ?_)
  refine AOps_q 9 _ rfl rfl rfl (QOp_move _ _ rfl rfl) ?_
  refine AOps_q 10 _ rfl rfl rfl (QOp_makeFuncD _ _ _ _ rfl rfl rfl) ?_
  obtain ⟨r1, hr1, h⟩ := bindO h
  refine AOps_call [] 11 _ _ _ _ _ _ _ _ _ _ rfl rfl rfl rfl rfl rfl rfl Try.call131 rfl (nodupB_sound _ rfl) rfl rfl rfl (slices_ContainsFunc_ac k p2 (fun a0 => impl_Colouring_goesWith_c1 a0 p0 p3 p1) 132 ([.pv ([.pv (colD p0) 0]) 0, .pv ([iD p3]) 0, .pv ([iD p1]) 0]) Try.call132 (fun a0 r h => impl_Colouring_goesWith_c1_ac a0 p0 p3 p1 r h) _ hr1) ?_
  rintro _ _ ⟨rfl, rfl⟩
  refine ⟨(fun _ h => nomatch h), (allc (trivial) (fun _ h => nomatch h)), AOps_as 11 (v' := bV r1) (H' := []) rfl rfl ?_⟩
  refine AOps_q 12 _ rfl rfl rfl (QOp_not _ _ _ rfl rfl) ?_
  refine AOps_q 8 _ rfl rfl rfl (QOp_assign _ _ rfl rfl) ?_
  refine AOps_nil ?_
  refine ACode_ret ?_
  cases h
  exact ⟨_, _, fun r a w h => ⟨r, h⟩, _, _, [], _, (.cons (ResV_tmp _ _ rfl) .nil), rfl, rfl, rfl, rfl, rfl⟩

-- (*loop.example/g01362/impl.Colouring).isClique
def impl_Colouring_isClique_l0 (k : Nat) (p0 : Col) (p1 : Int) (p2 : List Int) : Nat → Int → Option (Sum (Unit) (Bool))
  | 0, _ => none
  | k0 + 1, x1 => (if decide (x1 < (p2.length : Int)) then (if 0 ≤ x1 ∧ x1 < (p2.length : Int) then (if 0 ≤ 0 ∧ 0 ≤ x1 ∧ x1 ≤ (p2.length : Int) then (impl_Colouring_goesWith k p0 p1 ((p2.take x1.toNat).drop 0) (p2.getD x1.toNat 0)).bind fun r5 => (if !r5 then some (.inr false) else impl_Colouring_isClique_l0 k p0 p1 p2 k0 (w64 (x1 + 1))) else none) else none) else some (.inl ()))
def impl_Colouring_isClique (k : Nat) (p0 : Col) (p1 : Int) (p2 : List Int) : Option (Bool) :=
  (impl_Colouring_isClique_l0 k p0 p1 p2 k 0 : Option (Sum (Unit) (Bool))).bind fun os7 => (match os7 with | .inl s7 => some true | .inr rr => some rr)
set_option maxRecDepth 100000 in
theorem impl_Colouring_isClique_ac (k : Nat) (p0 : Col) (p1 : Int) (p2 : List Int) (r : Bool) (h : impl_Colouring_isClique k p0 p1 p2 = some r) : AC Try.prog 79 [.d (.pv (colD p0) 0), iV p1, .d (.sl none (intsD p2))] [] (fun res H' => res = [bV r] ∧ H' = []) := by
  refine AC_of_body true Try.func79 rfl Try.ntmps79 (rvs := [.tmp 6]) rfl rfl (fun G hG => ?_)
  have hm : G.H.length = 0 := by rw [hG]; rfl
  have hz : zeroG G.H = true := by rw [hG]; rfl
  unfold impl_Colouring_isClique at h
  refine ACode_seq (ACode_region ?_)
  refine AOps_q 6 _ rfl rfl rfl (QOp_assign _ _ rfl rfl) ?_
  refine AOps_nil ?_
  obtain ⟨os7, hss7, hks7⟩ := bindO h
  clear h
  refine ACode_seqJ (fun E' H' => ∃ s7 : Unit, os7 = .inl s7 ∧ Weak 25 G E' H' [] []) ?_ ?_
  · have h := hss7
    clear hss7
    refine ACode_seq (ACode_region ?_)
    refine AOps_q 9 _ rfl rfl rfl (QOp_move _ _ rfl rfl) ?_
    refine AOps_q 10 _ rfl rfl rfl (QOp_len_sl _ _ _ _ _ _ _ (intsD_length _) rfl rfl rfl rfl Try.underlying29 rfl) ?_
    refine AOps_q 11 _ rfl rfl rfl (QOp_move _ _ rfl rfl) ?_
    refine AOps_nil ?_
    refine ACode_block ?_
    refine ACode_loopW (fun k0 E H => ∃ (x1 : Int), E = [(0, .d (.pv (colD p0) 0)), (1, iV p1), (2, .d (.sl none (intsD p2))), (9, .d (.sl none (intsD p2))), (10, iV (p2.length : Int)), (11, iV x1)] ∧ H = [] ∧ impl_Colouring_isClique_l0 k p0 p1 p2 k0 x1 = some os7) k _ _ (Weak_keep 0 hm [0, 1, 2, 9, 10, 11] [] _ _ rfl rfl rfl) ⟨_, rfl, rfl, h⟩ ?_
    clear h
    rintro k0 E H ⟨x1, rfl, rfl, h⟩
    cases k0 with
    | zero => cases (show (none : Option (Sum (Unit) (Bool))) = some _ from h)
    | succ k0 =>
      rw [impl_Colouring_isClique_l0] at h
      refine ACode_seq (ACode_region ?_)
      refine AOps_q 12 _ rfl rfl rfl (QOp_lss _ _ _ _ _ _ _ rfl rfl rfl) ?_
      refine AOps_nil ?_
      refine ACode_seq ?_
      refine ACode_cond _ rfl (fun hb2 => ?_) (fun hb2 => ?_)
      · have h := iteT hb2 h
        refine ACode_skip ?_
        refine ACode_seq ?_
        refine ACode_block ?_
        refine ACode_seq (ACode_region ?_)
        refine AOps_q 13 _ rfl rfl rfl (QOp_move _ _ rfl rfl) ?_
        obtain ⟨hc3, h⟩ := guardO h
        refine AOps_q 14 _ rfl rfl rfl (QOp_indexAddr_sl _ _ _ _ _ _ _ _ rfl Try.underlying29 Try.sizeOf2 hc3.1 (by rw [intsD_length]; exact hc3.2) rfl rfl) ?_
        refine AOps_q 15 _ rfl rfl rfl (QOp_load_pv _ _ _ _ _ rfl Try.isAgg2 rfl (intsD_get _ _ 0 (by omega))) ?_
        refine AOps_q 7 _ rfl rfl rfl (QOp_assign _ _ rfl rfl) ?_
        refine AOps_q 8 _ rfl rfl rfl (QOp_assign _ _ rfl rfl) ?_
        refine AOps_nil ?_
        refine ACode_seq (ACode_region ?_)
        refine AOps_q 16 _ rfl rfl rfl (QOp_move _ _ rfl rfl) ?_
        refine AOps_q 17 _ rfl rfl rfl (QOp_move _ _ rfl rfl) ?_
        refine AOps_q 18 _ rfl rfl rfl (QOp_move _ _ rfl rfl) ?_
        refine AOps_q 19 _ rfl rfl rfl (QOp_move _ _ rfl rfl) ?_
        obtain ⟨hc4, h⟩ := guardO h
        refine AOps_q 20 _ rfl rfl rfl (QOp_slice_sl _ _ _ _ _ _ _ _ (0) (x1.toNat) rfl Try.underlying29 Try.sizeOf2 rfl rfl ⟨_, by rw [Int.toNat_of_nonneg (by omega)]; rfl⟩ (by omega) (by rw [intsD_length]; omega) (intsD_part _ _ _)) ?_
        refine AOps_q 21 _ rfl rfl rfl (QOp_move _ _ rfl rfl) ?_
        obtain ⟨r5, hr5, h⟩ := bindO h
        refine AOps_call [] 22 _ _ _ _ _ _ _ _ _ _ rfl rfl rfl rfl rfl rfl rfl Try.call117 rfl (nodupB_sound _ rfl) rfl rfl rfl (impl_Colouring_goesWith_ac k p0 p1 ((p2.take x1.toNat).drop 0) (p2.getD x1.toNat 0) _ hr5) ?_
        rintro _ _ ⟨rfl, rfl⟩
        refine ⟨(fun _ h => nomatch h), (allc (trivial) (fun _ h => nomatch h)), AOps_as 22 (v' := bV r5) (H' := []) rfl rfl ?_⟩
        refine AOps_q 23 _ rfl rfl rfl (QOp_not _ _ _ rfl rfl) ?_
        refine AOps_nil ?_
        refine ACode_cond _ rfl (fun hb6 => ?_) (fun hb6 => ?_)
        · have h := iteT hb6 h
          refine ACode_seq (ACode_region ?_)
          refine AOps_q 6 _ rfl rfl rfl (QOp_assign _ _ rfl rfl) ?_
          refine AOps_nil ?_
          refine ACode_ret ?_
          cases h
          have h := hks7
          cases h
          exact ⟨_, _, fun r a w h => ⟨r, h⟩, _, _, [], _, (.cons (ResV_tmp _ _ rfl) .nil), rfl, rfl, rfl, rfl, rfl⟩
        · have h := iteF hb6 h
          refine ACode_skip ?_
          refine (ACode_region ?_)
          refine AOps_q 24 _ rfl rfl rfl (QOp_add _ _ _ _ _ _ _ rfl rfl rfl) ?_
          refine AOps_q 11 _ rfl rfl rfl (QOp_move _ _ rfl rfl) ?_
          refine AOps_nil ?_
          exact ⟨k0, _, _, Nat.lt_succ_self _, Weak_keep 0 hm [0, 1, 2, 9, 10, 11] [] _ _ rfl rfl rfl, _, rfl, rfl, h⟩
      · have h := iteF hb2 h
        refine ACode_exit ?_
        cases h
        exact ⟨_, rfl, Weak_keep 0 hm [] [] _ _ rfl rfl rfl⟩
  rintro E' H' ⟨s7, rfl, hw⟩
  refine ACode_weak hw ?_
  have h := hks7
  refine ACode_seq (ACode_region ?_)
  refine AOps_q 6 _ rfl rfl rfl (QOp_assign _ _ rfl rfl) ?_
  refine AOps_nil ?_
  refine ACode_ret ?_
  cases h
  exact ⟨_, _, fun r a w h => ⟨r, h⟩, _, _, [], _, (.cons (ResV_tmp _ _ rfl) .nil), rfl, rfl, rfl, rfl, rfl⟩

-- loop.example/g01362/impl.IsClique
def impl_IsClique (k : Nat) (p0 : Col) (p1 : Int) (p2 : List Int) : Option (Bool × Int) :=
  (impl_Colouring_code k p0 (impl_IsClique_c1 k p0 p1 p2)).bind fun r1 => (if !decide (r1 = 0) then some (false, r1) else (impl_Colouring_isClique k p0 p1 p2).bind fun r3 => some (r3, 0))
set_option maxRecDepth 100000 in
theorem impl_IsClique_ac (k : Nat) (p0 : Col) (p1 : Int) (p2 : List Int) (r : Bool × Int) (h : impl_IsClique k p0 p1 p2 = some r) : AC Try.prog 23 [.d (.agg (colD p0)), iV p1, .d (.sl none (intsD p2))] [] (fun res H' => res = [bV r.1, iV r.2] ∧ H' = []) := by
  refine AC_of_body true Try.func23 rfl Try.ntmps23 (rvs := [.tmp 6, .tmp 7]) rfl rfl (fun G hG => ?_)
  have hm : G.H.length = 0 := by rw [hG]; rfl
  have hz : zeroG G.H = true := by rw [hG]; rfl
  unfold impl_IsClique at h
  refine ACode_seq (ACode_region ?_)
  refine AOps_boxI 3 _ _ (.agg (colD p0)) (colD p0) rfl (colD_one _) rfl rfl rfl rfl rfl ?_
  refine AOps_boxI 4 _ _ (iD p1) _ rfl (fun c hc => by cases hc with | head => rfl | tail _ h => cases h) rfl rfl rfl rfl rfl ?_
  refine AOps_boxI 5 _ _ (.sl none (intsD p2)) _ rfl (fun c hc => by cases hc with | head => rfl | tail _ h => cases h) rfl rfl rfl rfl rfl ?_
  refine AOps_q 6 _ rfl rfl rfl (QOp_assign _ _ rfl rfl) ?_
  refine AOps_q 7 _ rfl rfl rfl (QOp_assign _ _ rfl rfl) ?_
  refine AOps_nil ?_
  refine ACode_seq ?_
  refine ACode_seq (ACode_region ?_)
  refine AOps_q 9 _ rfl rfl rfl (QOp_makeFuncD _ _ _ _ rfl rfl rfl) ?_
  obtain ⟨r1, hr1, h⟩ := bindO h
  refine AOps_call [] 10 _ _ _ _ _ _ _ _ _ _ rfl rfl rfl rfl rfl rfl rfl Try.call68 rfl (nodupB_sound _ rfl) rfl rfl rfl (impl_Colouring_code_ac k p0 (impl_IsClique_c1 k p0 p1 p2) 76 ([.pv (colD p0) 0, .pv ([iD p1]) 0, .pv ([.sl none (intsD p2)]) 0]) Try.call76 (fun r h => impl_IsClique_c1_ac k p0 p1 p2 r h) _ hr1) ?_
  rintro _ _ ⟨rfl, rfl⟩
  refine ⟨(fun _ h => nomatch h), (allc (trivial) (fun _ h => nomatch h)), AOps_as 10 (v' := iV r1) (H' := []) rfl rfl ?_⟩
  refine AOps_q 8 _ rfl rfl rfl (QOp_assign _ _ rfl rfl) ?_
  refine AOps_nil ?_
  refine ACode_seq (ACode_region ?_)
  refine AOps_q 11 _ rfl rfl rfl (QOp_move _ _ rfl rfl) ?_
  refine AOps_q 12 _ rfl rfl rfl (QOp_neq _ _ _ _ _ _ _ rfl rfl rfl) ?_
  refine AOps_nil ?_
  refine ACode_cond _ rfl (fun hb2 => ?_) (fun hb2 => ?_)
  · have h := iteT hb2 h
    refine ACode_seq (ACode_region ?_)
    refine AOps_q 13 _ rfl rfl rfl (QOp_move _ _ rfl rfl) ?_
    refine AOps_q 6 _ rfl rfl rfl (QOp_assign _ _ rfl rfl) ?_
    refine AOps_q 7 _ rfl rfl rfl (QOp_assign _ _ rfl rfl) ?_
    refine AOps_nil ?_
    refine ACode_ret ?_
    cases h
    exact ⟨_, _, fun r a w h => ⟨r, h⟩, _, _, [], _, (.cons (ResV_tmp _ _ rfl) (.cons (ResV_tmp _ _ rfl) .nil)), rfl, rfl, rfl, rfl, rfl⟩
  · have h := iteF hb2 h
    refine ACode_skip ?_
    refine ACode_seq (ACode_region ?_)
    refine AOps_q 14 _ rfl rfl rfl (QOp_load_pv _ _ _ _ _ rfl Try.isAgg2 rfl rfl) ?_
    refine AOps_q 15 _ rfl rfl rfl (QOp_load_pv _ _ _ _ _ rfl Try.isAgg29 rfl rfl) ?_
    obtain ⟨r3, hr3, h⟩ := bindO h
    refine AOps_call [] 16 _ _ _ _ _ _ _ _ _ _ rfl rfl rfl rfl rfl rfl rfl Try.call79 rfl (nodupB_sound _ rfl) rfl rfl rfl (impl_Colouring_isClique_ac k p0 p1 p2 _ hr3) ?_
    rintro _ _ ⟨rfl, rfl⟩
    refine ⟨(fun _ h => nomatch h), (allc (trivial) (fun _ h => nomatch h)), AOps_as 16 (v' := bV r3) (H' := []) rfl rfl ?_⟩
    refine AOps_q 6 _ rfl rfl rfl (QOp_assign _ _ rfl rfl) ?_
    refine AOps_q 7 _ rfl rfl rfl (QOp_assign _ _ rfl rfl) ?_
    refine AOps_nil ?_
    refine ACode_ret ?_
    cases h
    exact ⟨_, _, fun r a w h => ⟨r, h⟩, _, _, [], _, (.cons (ResV_tmp _ _ rfl) (.cons (ResV_tmp _ _ rfl) .nil)), rfl, rfl, rfl, rfl, rfl⟩

end Go.Proofs.Ytfpcopidcagdaaa
