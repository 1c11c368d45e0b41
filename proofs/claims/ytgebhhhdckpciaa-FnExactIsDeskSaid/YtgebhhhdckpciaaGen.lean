/- Plain functions of the program and that the program computes them: printed by the own tool gen.py. No conditions. -/
import Derived.Test.YtgebhhhdckpciaaGena
set_option linter.unusedVariables false
set_option linter.unusedSimpArgs false
namespace Go.Proofs.Ytgebhhhdckpciaa
open Go Go.RowKit Ab

-- (*loop.example/g01362/impl.Colouring).isClosedColour
def impl_Colouring_isClosedColour_l2 (p0 : Col) (p1 : Int) (x1 : Int) (x3 : Int) : Nat → Int → Option (Sum (Unit) (Sum (Unit) (Sum (Unit) (Bool))))
  | 0, _ => none
  | k2 + 1, x5 => (if decide (x5 < x3) then (((impl_Colouring_at p0 x5 x3).bind fun r7 => (if decide (r7 = p1) then (impl_Colouring_at p0 x3 x1).bind fun r9 => (if decide (r9 = p1) then (impl_Colouring_at p0 x5 x1).bind fun r11 => some (!decide (r11 = p1)) else some false) else some false) : Option (Bool)).bind fun s12 => (if s12 then (((some (.inr false)).bind fun rr => some (.inr rr)).bind fun rr => some (.inr rr)).bind fun rr => some (.inr rr) else some (.inl ())) : Option (Sum (Unit) (Sum (Unit) (Sum (Unit) (Sum (Unit) (Bool)))))).bind fun os14 => (match os14 with | .inl s14 => impl_Colouring_isClosedColour_l2 p0 p1 x1 x3 k2 (w64 (x5 + 1)) | .inr rr => some rr) else some (.inl ()))
def impl_Colouring_isClosedColour_l1 (k : Nat) (p0 : Col) (p1 : Int) (x1 : Int) : Nat → Int → Option (Sum (Unit) (Sum (Unit) (Bool)))
  | 0, _ => none
  | k1 + 1, x3 => (if decide (x3 < x1) then (impl_Colouring_isClosedColour_l2 p0 p1 x1 x3 k 0 : Option (Sum (Unit) (Sum (Unit) (Sum (Unit) (Bool))))).bind fun os15 => (match os15 with | .inl s15 => impl_Colouring_isClosedColour_l1 k p0 p1 x1 k1 (w64 (x3 + 1)) | .inr rr => some rr) else some (.inl ()))
def impl_Colouring_isClosedColour_l0 (k : Nat) (p0 : Col) (p1 : Int) : Nat → Int → Option (Sum (Unit) (Bool))
  | 0, _ => none
  | k0 + 1, x1 => (if decide (x1 < p0.p) then (impl_Colouring_isClosedColour_l1 k p0 p1 x1 k 0 : Option (Sum (Unit) (Sum (Unit) (Bool)))).bind fun os16 => (match os16 with | .inl s16 => impl_Colouring_isClosedColour_l0 k p0 p1 k0 (w64 (x1 + 1)) | .inr rr => some rr) else some (.inl ()))
def impl_Colouring_isClosedColour (k : Nat) (p0 : Col) (p1 : Int) : Option (Bool) :=
  (impl_Colouring_isClosedColour_l0 k p0 p1 k 0 : Option (Sum (Unit) (Bool))).bind fun os17 => (match os17 with | .inl s17 => some true | .inr rr => some rr)
set_option maxRecDepth 100000 in
theorem impl_Colouring_isClosedColour_ac (k : Nat) (p0 : Col) (p1 : Int) (r : Bool) (h : impl_Colouring_isClosedColour k p0 p1 = some r) : AC Try.prog 40 [.d (.pv (colD p0) 0), iV p1] [] (fun res H' => res = [bV r] ∧ H' = []) := by
  refine AC_of_body true Try.func40 rfl Try.ntmps40 (rvs := [.tmp 4]) rfl rfl (fun G hG => ?_)
  have hm : G.H.length = 0 := by rw [hG]; rfl
  unfold impl_Colouring_isClosedColour at h
  refine ACode_seq (ACode_region ?_)
  refine AOps_q 4 _ rfl rfl rfl (QOp_assign _ _ rfl rfl) ?_
  refine AOps_nil ?_
  obtain ⟨os17, hss17, hks17⟩ := bindO h
  clear h
  refine ACode_seqJ (fun E' H' => ∃ s17 : Unit, os17 = .inl s17 ∧ Weak 48 G E' H' [] []) ?_ ?_
  · have h := hss17
    clear hss17
    refine ACode_seq (ACode_region ?_)
    refine AOps_q 8 _ rfl rfl rfl (QOp_move _ _ rfl rfl) ?_
    refine AOps_q 9 _ rfl rfl rfl (QOp_nilCheck_pv _ _ _ rfl rfl) ?_
    refine AOps_q 10 _ rfl rfl rfl (QOp_fieldAddr_pv _ _ _ _ _ 0 _ _ rfl Try.underlying31 rfl _ Try.sizeOf2 rfl rfl) ?_
    refine AOps_q 11 _ rfl rfl rfl (QOp_load_pv _ _ _ _ _ rfl Try.isAgg2 rfl rfl) ?_
    refine AOps_q 12 _ rfl rfl rfl (QOp_move _ _ rfl rfl) ?_
    refine AOps_nil ?_
    refine ACode_block ?_
    refine ACode_loopW (fun k0 E H => ∃ (x1 : Int), E = [(0, .d (.pv (colD p0) 0)), (1, iV p1), (11, iV p0.p), (12, iV x1)] ∧ H = [] ∧ impl_Colouring_isClosedColour_l0 k p0 p1 k0 x1 = some os17) k _ _ (Weak_keep 0 hm [0, 1, 11, 12] [] _ _ rfl rfl rfl) ⟨_, rfl, rfl, h⟩ ?_
    clear h
    rintro k0 E H ⟨x1, rfl, rfl, h⟩
    cases k0 with
    | zero => cases (show (none : Option (Sum (Unit) (Bool))) = some _ from h)
    | succ k0 =>
      rw [impl_Colouring_isClosedColour_l0] at h
      refine ACode_seq (ACode_region ?_)
      refine AOps_q 13 _ rfl rfl rfl (QOp_lss _ _ _ _ _ _ _ rfl rfl rfl) ?_
      refine AOps_nil ?_
      refine ACode_seq ?_
      refine ACode_cond _ rfl (fun hb2 => ?_) (fun hb2 => ?_)
      · have h := iteT hb2 h
        refine ACode_skip ?_
        obtain ⟨os16, hss16, hks16⟩ := bindO h
        clear h
        refine ACode_seqJ (fun E' H' => ∃ s16 : Unit, os16 = .inl s16 ∧ Weak 48 G E' H' [(0, .d (.pv (colD p0) 0)), (1, iV p1), (11, iV p0.p), (12, iV x1)] []) ?_ ?_
        · have h := hss16
          clear hss16
          refine ACode_block ?_
          refine ACode_seq (ACode_region ?_)
          refine AOps_q 14 _ rfl rfl rfl (QOp_move _ _ rfl rfl) ?_
          refine AOps_q 5 _ rfl rfl rfl (QOp_assign _ _ rfl rfl) ?_
          refine AOps_nil ?_
          refine ACode_seq (ACode_region ?_)
          refine AOps_q 15 _ rfl rfl rfl (QOp_move _ _ rfl rfl) ?_
          refine AOps_q 16 _ rfl rfl rfl (QOp_move _ _ rfl rfl) ?_
          refine AOps_nil ?_
          refine ACode_block ?_
          refine ACode_loopW (fun k1 E H => ∃ (x3 : Int), E = [(0, .d (.pv (colD p0) 0)), (1, iV p1), (5, iV x1), (11, iV p0.p), (12, iV x1), (15, iV x1), (16, iV x3)] ∧ H = [] ∧ impl_Colouring_isClosedColour_l1 k p0 p1 x1 k1 x3 = some os16) k _ _ (Weak_keep 0 hm [0, 1, 5, 11, 12, 15, 16] [] _ _ rfl rfl rfl) ⟨_, rfl, rfl, h⟩ ?_
          clear h
          rintro k1 E H ⟨x3, rfl, rfl, h⟩
          cases k1 with
          | zero => cases (show (none : Option (Sum (Unit) (Sum (Unit) (Bool)))) = some _ from h)
          | succ k1 =>
            rw [impl_Colouring_isClosedColour_l1] at h
            refine ACode_seq (ACode_region ?_)
            refine AOps_q 17 _ rfl rfl rfl (QOp_lss _ _ _ _ _ _ _ rfl rfl rfl) ?_
            refine AOps_nil ?_
            refine ACode_seq ?_
            refine ACode_cond _ rfl (fun hb4 => ?_) (fun hb4 => ?_)
            · have h := iteT hb4 h
              refine ACode_skip ?_
              obtain ⟨os15, hss15, hks15⟩ := bindO h
              clear h
              refine ACode_seqJ (fun E' H' => ∃ s15 : Unit, os15 = .inl s15 ∧ Weak 48 G E' H' [(0, .d (.pv (colD p0) 0)), (1, iV p1), (5, iV x1), (11, iV p0.p), (12, iV x1), (15, iV x1), (16, iV x3)] []) ?_ ?_
              · have h := hss15
                clear hss15
                refine ACode_block ?_
                refine ACode_seq (ACode_region ?_)
                refine AOps_q 18 _ rfl rfl rfl (QOp_move _ _ rfl rfl) ?_
                refine AOps_q 6 _ rfl rfl rfl (QOp_assign _ _ rfl rfl) ?_
                refine AOps_nil ?_
                refine ACode_seq (ACode_region ?_)
                refine AOps_q 19 _ rfl rfl rfl (QOp_move _ _ rfl rfl) ?_
                refine AOps_q 20 _ rfl rfl rfl (QOp_move _ _ rfl rfl) ?_
                refine AOps_nil ?_
                refine ACode_block ?_
                refine ACode_loopW (fun k2 E H => ∃ (x5 : Int), E = [(0, .d (.pv (colD p0) 0)), (1, iV p1), (5, iV x1), (6, iV x3), (11, iV p0.p), (12, iV x1), (15, iV x1), (16, iV x3), (19, iV x3), (20, iV x5)] ∧ H = [] ∧ impl_Colouring_isClosedColour_l2 p0 p1 x1 x3 k2 x5 = some os15) k _ _ (Weak_keep 0 hm [0, 1, 5, 6, 11, 12, 15, 16, 19, 20] [] _ _ rfl rfl rfl) ⟨_, rfl, rfl, h⟩ ?_
                clear h
                rintro k2 E H ⟨x5, rfl, rfl, h⟩
                cases k2 with
                | zero => cases (show (none : Option (Sum (Unit) (Sum (Unit) (Sum (Unit) (Bool))))) = some _ from h)
                | succ k2 =>
                  rw [impl_Colouring_isClosedColour_l2] at h
                  refine ACode_seq (ACode_region ?_)
                  refine AOps_q 21 _ rfl rfl rfl (QOp_lss _ _ _ _ _ _ _ rfl rfl rfl) ?_
                  refine AOps_nil ?_
                  refine ACode_seq ?_
                  refine ACode_cond _ rfl (fun hb6 => ?_) (fun hb6 => ?_)
                  · have h := iteT hb6 h
                    refine ACode_skip ?_
                    obtain ⟨os14, hss14, hks14⟩ := bindO h
                    clear h
                    refine ACode_seqJ (fun E' H' => ∃ s14 : Unit, os14 = .inl s14 ∧ Weak 48 G E' H' [(0, .d (.pv (colD p0) 0)), (1, iV p1), (5, iV x1), (6, iV x3), (11, iV p0.p), (12, iV x1), (15, iV x1), (16, iV x3), (19, iV x3), (20, iV x5)] []) ?_ ?_
                    · have h := hss14
                      clear hss14
                      refine ACode_block ?_
                      refine ACode_seq (ACode_region ?_)
                      refine AOps_q 22 _ rfl rfl rfl (QOp_move _ _ rfl rfl) ?_
                      refine AOps_q 7 _ rfl rfl rfl (QOp_assign _ _ rfl rfl) ?_
                      refine AOps_nil ?_
                      obtain ⟨s12, hss12, hks12⟩ := bindO h
                      clear h
                      refine ACode_seqJ (fun E' H' => Weak 48 G E' H' [(0, .d (.pv (colD p0) 0)), (1, iV p1), (5, iV x1), (6, iV x3), (11, iV p0.p), (12, iV x1), (15, iV x1), (16, iV x3), (19, iV x3), (20, iV x5), (44, bV s12)] []) ?_ ?_
                      · have h := hss12
                        clear hss12
                        refine (ACode_region ?_)
                        refine AOps_q 23 _ rfl rfl rfl (QOp_move _ _ rfl rfl) ?_
                        refine AOps_q 24 _ rfl rfl rfl (QOp_move _ _ rfl rfl) ?_
                        refine AOps_q 25 _ rfl rfl rfl (QOp_move _ _ rfl rfl) ?_
                        obtain ⟨r7, hr7, h⟩ := bindO h
                        refine AOps_call [] 26 _ _ _ _ _ _ _ _ _ _ rfl rfl rfl rfl rfl rfl rfl Try.call49 rfl (nodupB_sound _ rfl) rfl rfl rfl (impl_Colouring_at_ac p0 x5 x3 _ hr7) ?_
                        rintro _ _ ⟨rfl, rfl⟩
                        refine ⟨(fun _ h => nomatch h), (allc (trivial) (fun _ h => nomatch h)), AOps_as 26 (v' := iV r7) (H' := []) rfl rfl ?_⟩
                        refine AOps_q 27 _ rfl rfl rfl (QOp_move _ _ rfl rfl) ?_
                        refine AOps_q 28 _ rfl rfl rfl (QOp_eql _ _ _ _ _ _ _ rfl rfl rfl) ?_
                        refine AOps_q 29 _ rfl rfl rfl (QOp_move _ _ rfl rfl) ?_
                        refine AOps_case 29 _ rfl (fun hb8 => ?_) (fun hb8 => ?_)
                        · have h := iteT hb8 h
                          refine AOps_q 30 _ rfl rfl rfl (QOp_move _ _ rfl rfl) ?_
                          refine AOps_q 31 _ rfl rfl rfl (QOp_move _ _ rfl rfl) ?_
                          refine AOps_q 32 _ rfl rfl rfl (QOp_move _ _ rfl rfl) ?_
                          obtain ⟨r9, hr9, h⟩ := bindO h
                          refine AOps_call [] 33 _ _ _ _ _ _ _ _ _ _ rfl rfl rfl rfl rfl rfl rfl Try.call49 rfl (nodupB_sound _ rfl) rfl rfl rfl (impl_Colouring_at_ac p0 x3 x1 _ hr9) ?_
                          rintro _ _ ⟨rfl, rfl⟩
                          refine ⟨(fun _ h => nomatch h), (allc (trivial) (fun _ h => nomatch h)), AOps_as 33 (v' := iV r9) (H' := []) rfl rfl ?_⟩
                          refine AOps_q 34 _ rfl rfl rfl (QOp_move _ _ rfl rfl) ?_
                          refine AOps_q 35 _ rfl rfl rfl (QOp_eql _ _ _ _ _ _ _ rfl rfl rfl) ?_
                          refine AOps_q 36 _ rfl rfl rfl (QOp_pick_t _ _ _ _ rfl rfl rfl) ?_
                          refine AOps_q 37 _ rfl rfl rfl (QOp_move _ _ rfl rfl) ?_
                          refine AOps_case 37 _ rfl (fun hb10 => ?_) (fun hb10 => ?_)
                          · have h := iteT hb10 h
                            refine AOps_q 38 _ rfl rfl rfl (QOp_move _ _ rfl rfl) ?_
                            refine AOps_q 39 _ rfl rfl rfl (QOp_move _ _ rfl rfl) ?_
                            refine AOps_q 40 _ rfl rfl rfl (QOp_move _ _ rfl rfl) ?_
                            obtain ⟨r11, hr11, h⟩ := bindO h
                            refine AOps_call [] 41 _ _ _ _ _ _ _ _ _ _ rfl rfl rfl rfl rfl rfl rfl Try.call49 rfl (nodupB_sound _ rfl) rfl rfl rfl (impl_Colouring_at_ac p0 x5 x1 _ hr11) ?_
                            rintro _ _ ⟨rfl, rfl⟩
                            refine ⟨(fun _ h => nomatch h), (allc (trivial) (fun _ h => nomatch h)), AOps_as 41 (v' := iV r11) (H' := []) rfl rfl ?_⟩
                            refine AOps_q 42 _ rfl rfl rfl (QOp_move _ _ rfl rfl) ?_
                            refine AOps_q 43 _ rfl rfl rfl (QOp_neq _ _ _ _ _ _ _ rfl rfl rfl) ?_
                            refine AOps_q 44 _ rfl rfl rfl (QOp_pick_t _ _ _ _ rfl rfl rfl) ?_
                            refine AOps_nil ?_
                            cases h
                            exact Weak_keep 0 hm [0, 1, 5, 6, 11, 12, 15, 16, 19, 20, 44] [] _ _ rfl rfl rfl
                          · have h := iteF hb10 h
                            refine AOps_skip 38 rfl rfl rfl ?_
                            refine AOps_skip 39 rfl rfl rfl ?_
                            refine AOps_skip 40 rfl rfl rfl ?_
                            refine AOps_skip 41 rfl rfl rfl ?_
                            refine AOps_skip 42 rfl rfl rfl ?_
                            refine AOps_skip 43 rfl rfl rfl ?_
                            refine AOps_q 44 _ rfl rfl rfl (QOp_pick_f _ _ _ _ rfl rfl rfl) ?_
                            refine AOps_nil ?_
                            cases h
                            exact Weak_keep 0 hm [0, 1, 5, 6, 11, 12, 15, 16, 19, 20, 44] [] _ _ rfl rfl rfl
                        · have h := iteF hb8 h
                          refine AOps_skip 30 rfl rfl rfl ?_
                          refine AOps_skip 31 rfl rfl rfl ?_
                          refine AOps_skip 32 rfl rfl rfl ?_
                          refine AOps_skip 33 rfl rfl rfl ?_
                          refine AOps_skip 34 rfl rfl rfl ?_
                          refine AOps_skip 35 rfl rfl rfl ?_
                          refine AOps_q 36 _ rfl rfl rfl (QOp_pick_f _ _ _ _ rfl rfl rfl) ?_
                          refine AOps_q 37 _ rfl rfl rfl (QOp_move _ _ rfl rfl) ?_
                          refine AOps_skip 38 rfl rfl rfl ?_
                          refine AOps_skip 39 rfl rfl rfl ?_
                          refine AOps_skip 40 rfl rfl rfl ?_
                          refine AOps_skip 41 rfl rfl rfl ?_
                          refine AOps_skip 42 rfl rfl rfl ?_
                          refine AOps_skip 43 rfl rfl rfl ?_
                          refine AOps_q 44 _ rfl rfl rfl (QOp_pick_f _ _ _ _ rfl rfl rfl) ?_
                          refine AOps_nil ?_
                          cases h
                          exact Weak_keep 0 hm [0, 1, 5, 6, 11, 12, 15, 16, 19, 20, 44] [] _ _ rfl rfl rfl
                      intro E' H' hw
                      refine ACode_weak hw ?_
                      have h := hks12
                      refine ACode_cond _ rfl (fun hb13 => ?_) (fun hb13 => ?_)
                      · have h := iteT hb13 h
                        refine ACode_seq (ACode_region ?_)
                        refine AOps_q 4 _ rfl rfl rfl (QOp_assign _ _ rfl rfl) ?_
                        refine AOps_nil ?_
                        refine ACode_ret ?_
                        obtain ⟨rr, hz20, h2⟩ := bindO h
                        obtain rfl := Option.some.inj h2
                        obtain rfl := Option.some.inj (show some rr = some _ from hks14)
                        have h := hz20
                        obtain ⟨rr, hz19, h2⟩ := bindO h
                        obtain rfl := Option.some.inj h2
                        obtain rfl := Option.some.inj (show some rr = some _ from hks15)
                        have h := hz19
                        obtain ⟨rr, hz18, h2⟩ := bindO h
                        obtain rfl := Option.some.inj h2
                        obtain rfl := Option.some.inj (show some rr = some _ from hks16)
                        have h := hz18
                        cases h
                        have h := hks17
                        cases h
                        exact ⟨_, _, fun r a w h => ⟨r, h⟩, _, _, [], _, (.cons (ResV_tmp _ _ rfl) .nil), rfl, rfl, rfl, rfl, rfl⟩
                      · have h := iteF hb13 h
                        refine ACode_skip ?_
                        cases h
                        exact ⟨_, rfl, Weak_keep 0 hm [0, 1, 5, 6, 11, 12, 15, 16, 19, 20] [] _ _ rfl rfl rfl⟩
                    rintro E' H' ⟨s14, rfl, hw⟩
                    refine ACode_weak hw ?_
                    have h := hks14
                    refine (ACode_region ?_)
                    refine AOps_q 45 _ rfl rfl rfl (QOp_add _ _ _ _ _ _ _ rfl rfl rfl) ?_
                    refine AOps_q 20 _ rfl rfl rfl (QOp_move _ _ rfl rfl) ?_
                    refine AOps_nil ?_
                    exact ⟨k2, _, _, Nat.lt_succ_self _, Weak_keep 0 hm [0, 1, 5, 6, 11, 12, 15, 16, 19, 20] [] _ _ rfl rfl rfl, _, rfl, rfl, h⟩
                  · have h := iteF hb6 h
                    refine ACode_exit ?_
                    cases h
                    exact ⟨_, rfl, Weak_keep 0 hm [0, 1, 5, 11, 12, 15, 16] [] _ _ rfl rfl rfl⟩
              rintro E' H' ⟨s15, rfl, hw⟩
              refine ACode_weak hw ?_
              have h := hks15
              refine (ACode_region ?_)
              refine AOps_q 46 _ rfl rfl rfl (QOp_add _ _ _ _ _ _ _ rfl rfl rfl) ?_
              refine AOps_q 16 _ rfl rfl rfl (QOp_move _ _ rfl rfl) ?_
              refine AOps_nil ?_
              exact ⟨k1, _, _, Nat.lt_succ_self _, Weak_keep 0 hm [0, 1, 5, 11, 12, 15, 16] [] _ _ rfl rfl rfl, _, rfl, rfl, h⟩
            · have h := iteF hb4 h
              refine ACode_exit ?_
              cases h
              exact ⟨_, rfl, Weak_keep 0 hm [0, 1, 11, 12] [] _ _ rfl rfl rfl⟩
        rintro E' H' ⟨s16, rfl, hw⟩
        refine ACode_weak hw ?_
        have h := hks16
        refine (ACode_region ?_)
        refine AOps_q 47 _ rfl rfl rfl (QOp_add _ _ _ _ _ _ _ rfl rfl rfl) ?_
        refine AOps_q 12 _ rfl rfl rfl (QOp_move _ _ rfl rfl) ?_
        refine AOps_nil ?_
        exact ⟨k0, _, _, Nat.lt_succ_self _, Weak_keep 0 hm [0, 1, 11, 12] [] _ _ rfl rfl rfl, _, rfl, rfl, h⟩
      · have h := iteF hb2 h
        refine ACode_exit ?_
        cases h
        exact ⟨_, rfl, Weak_keep 0 hm [] [] _ _ rfl rfl rfl⟩
  rintro E' H' ⟨s17, rfl, hw⟩
  refine ACode_weak hw ?_
  have h := hks17
  refine ACode_seq (ACode_region ?_)
  refine AOps_q 4 _ rfl rfl rfl (QOp_assign _ _ rfl rfl) ?_
  refine AOps_nil ?_
  refine ACode_ret ?_
  cases h
  exact ⟨_, _, fun r a w h => ⟨r, h⟩, _, _, [], _, (.cons (ResV_tmp _ _ rfl) .nil), rfl, rfl, rfl, rfl, rfl⟩

-- loop.example/g01362/impl.IsClosedColour
def impl_IsClosedColour (k : Nat) (p0 : Col) (p1 : Int) : Option (Bool × Int) :=
  (impl_Colouring_colourCode k p0 p1 true).bind fun r1 => (if !decide (r1 = 0) then some (false, r1) else (impl_Colouring_isClosedColour k p0 p1).bind fun r3 => some (r3, 0))
set_option maxRecDepth 100000 in
theorem impl_IsClosedColour_ac (k : Nat) (p0 : Col) (p1 : Int) (r : Bool × Int) (h : impl_IsClosedColour k p0 p1 = some r) : AC Try.prog 22 [.d (.agg (colD p0)), iV p1] [] (fun res H' => res = [bV r.1, iV r.2] ∧ H' = []) := by
  refine AC_of_body true Try.func22 rfl Try.ntmps22 (rvs := [.tmp 4, .tmp 5]) rfl rfl (fun G hG => ?_)
  have hm : G.H.length = 0 := by rw [hG]; rfl
  unfold impl_IsClosedColour at h
  refine ACode_seq (ACode_region ?_)
  refine AOps_boxI 2 _ _ (.agg (colD p0)) (colD p0) rfl (colD_one _) rfl rfl rfl rfl rfl ?_
  refine AOps_q 4 _ rfl rfl rfl (QOp_assign _ _ rfl rfl) ?_
  refine AOps_q 5 _ rfl rfl rfl (QOp_assign _ _ rfl rfl) ?_
  refine AOps_nil ?_
  refine ACode_seq ?_
  refine ACode_seq (ACode_region ?_)
  refine AOps_q 7 _ rfl rfl rfl (QOp_move _ _ rfl rfl) ?_
  obtain ⟨r1, hr1, h⟩ := bindO h
  refine AOps_call [] 8 _ _ _ _ _ _ _ _ _ _ rfl rfl rfl rfl rfl rfl rfl Try.call39 rfl (nodupB_sound _ rfl) rfl rfl rfl (impl_Colouring_colourCode_ac k p0 p1 true _ hr1) ?_
  rintro _ _ ⟨rfl, rfl⟩
  refine ⟨(fun _ h => nomatch h), (allc (trivial) (fun _ h => nomatch h)), AOps_as 8 (v' := iV r1) (H' := []) rfl rfl ?_⟩
  refine AOps_q 6 _ rfl rfl rfl (QOp_assign _ _ rfl rfl) ?_
  refine AOps_nil ?_
  refine ACode_seq (ACode_region ?_)
  refine AOps_q 9 _ rfl rfl rfl (QOp_move _ _ rfl rfl) ?_
  refine AOps_q 10 _ rfl rfl rfl (QOp_neq _ _ _ _ _ _ _ rfl rfl rfl) ?_
  refine AOps_nil ?_
  refine ACode_cond _ rfl (fun hb2 => ?_) (fun hb2 => ?_)
  · have h := iteT hb2 h
    refine ACode_seq (ACode_region ?_)
    refine AOps_q 11 _ rfl rfl rfl (QOp_move _ _ rfl rfl) ?_
    refine AOps_q 4 _ rfl rfl rfl (QOp_assign _ _ rfl rfl) ?_
    refine AOps_q 5 _ rfl rfl rfl (QOp_assign _ _ rfl rfl) ?_
    refine AOps_nil ?_
    refine ACode_ret ?_
    cases h
    exact ⟨_, _, fun r a w h => ⟨r, h⟩, _, _, [], _, (.cons (ResV_tmp _ _ rfl) (.cons (ResV_tmp _ _ rfl) .nil)), rfl, rfl, rfl, rfl, rfl⟩
  · have h := iteF hb2 h
    refine ACode_skip ?_
    refine ACode_seq (ACode_region ?_)
    refine AOps_q 12 _ rfl rfl rfl (QOp_move _ _ rfl rfl) ?_
    obtain ⟨r3, hr3, h⟩ := bindO h
    refine AOps_call [] 13 _ _ _ _ _ _ _ _ _ _ rfl rfl rfl rfl rfl rfl rfl Try.call40 rfl (nodupB_sound _ rfl) rfl rfl rfl (impl_Colouring_isClosedColour_ac k p0 p1 _ hr3) ?_
    rintro _ _ ⟨rfl, rfl⟩
    refine ⟨(fun _ h => nomatch h), (allc (trivial) (fun _ h => nomatch h)), AOps_as 13 (v' := bV r3) (H' := []) rfl rfl ?_⟩
    refine AOps_q 4 _ rfl rfl rfl (QOp_assign _ _ rfl rfl) ?_
    refine AOps_q 5 _ rfl rfl rfl (QOp_assign _ _ rfl rfl) ?_
    refine AOps_nil ?_
    refine ACode_ret ?_
    cases h
    exact ⟨_, _, fun r a w h => ⟨r, h⟩, _, _, [], _, (.cons (ResV_tmp _ _ rfl) (.cons (ResV_tmp _ _ rfl) .nil)), rfl, rfl, rfl, rfl, rfl⟩

-- loop.example/g01362/laws.FnExactIsClosedColour
def laws_FnExactIsClosedColour (k : Nat) (p0 : Col) (p1 : Int) : Option (Bool) :=
  (laws_toColouring k p0).bind fun r1 => (spec_IsClosedColour k r1 p1).bind fun r2 => (laws_toColouring k p0).bind fun r3 => (impl_IsClosedColour k r3 p1).bind fun r4 => (letO (if !(r4.1 == r2.1) then true else !decide (r4.2 = r2.2)) fun (s6 : Bool) => (if s6 then some (.inr false) else some (.inl ())) : Option (Sum (Unit) (Bool))).bind fun os8 => (match os8 with | .inl s8 => some true | .inr rr => some rr)
set_option maxRecDepth 100000 in
theorem laws_FnExactIsClosedColour_ac (k : Nat) (p0 : Col) (p1 : Int) (r : Bool) (h : laws_FnExactIsClosedColour k p0 p1 = some r) : AC Try.prog 7 [.d (.agg (colD p0)), iV p1] [] (fun res H' => res = [bV r] ∧ H' = []) := by
  refine AC_of_body true Try.func7 rfl Try.ntmps7 (rvs := [.tmp 4]) rfl rfl (fun G hG => ?_)
  have hm : G.H.length = 0 := by rw [hG]; rfl
  unfold laws_FnExactIsClosedColour at h
  refine ACode_seq (ACode_region ?_)
  refine AOps_boxI 2 _ _ (.agg (colD p0)) (colD p0) rfl (colD_one _) rfl rfl rfl rfl rfl ?_
  refine AOps_q 4 _ rfl rfl rfl (QOp_assign _ _ rfl rfl) ?_
  refine AOps_nil ?_
  refine ACode_seq (ACode_region ?_)
  refine AOps_q 10 _ rfl rfl rfl (QOp_loadN_pv _ _ _ _ _ _ rfl Try.isAgg27 Try.sizeOf27 rfl (colD_all _) (colD_length _)) ?_
  obtain ⟨r1, hr1, h⟩ := bindO h
  refine AOps_call [] 11 _ _ _ _ _ _ _ _ _ _ rfl rfl rfl rfl rfl rfl rfl Try.call21 rfl (nodupB_sound _ rfl) rfl rfl rfl (laws_toColouring_ac k p0 _ hr1) ?_
  rintro _ _ ⟨rfl, rfl⟩
  refine ⟨(fun _ h => nomatch h), (allc (trivial) (fun _ h => nomatch h)), AOps_as 11 (v' := .d (.agg (colD r1))) (H' := []) rfl rfl ?_⟩
  refine AOps_q 12 _ rfl rfl rfl (QOp_move _ _ rfl rfl) ?_
  obtain ⟨r2, hr2, h⟩ := bindO h
  refine AOps_call [] 13 _ _ _ _ _ _ _ _ _ _ rfl rfl rfl rfl rfl rfl rfl Try.call20 rfl (nodupB_sound _ rfl) rfl rfl rfl (spec_IsClosedColour_ac k r1 p1 _ hr2) ?_
  rintro _ _ ⟨rfl, rfl⟩
  refine ⟨(fun _ h => nomatch h), (allc (trivial) (allc (trivial) (fun _ h => nomatch h))), AOps_as 13 (v' := .tup [bV r2.1, iV r2.2]) (H' := []) rfl rfl ?_⟩
  refine AOps_q 9 _ rfl rfl rfl (QOp_move _ _ rfl rfl) ?_
  refine AOps_q 14 _ rfl rfl rfl (QOp_extract _ _ _ _ rfl rfl rfl) ?_
  refine AOps_q 15 _ rfl rfl rfl (QOp_extract _ _ _ _ rfl rfl rfl) ?_
  refine AOps_q 5 _ rfl rfl rfl (QOp_assign _ _ rfl rfl) ?_
  refine AOps_q 6 _ rfl rfl rfl (QOp_assign _ _ rfl rfl) ?_
  refine AOps_nil ?_
  refine ACode_seq (ACode_region ?_)
  refine AOps_q 17 _ rfl rfl rfl (QOp_loadN_pv _ _ _ _ _ _ rfl Try.isAgg27 Try.sizeOf27 rfl (colD_all _) (colD_length _)) ?_
  obtain ⟨r3, hr3, h⟩ := bindO h
  refine AOps_call [] 18 _ _ _ _ _ _ _ _ _ _ rfl rfl rfl rfl rfl rfl rfl Try.call21 rfl (nodupB_sound _ rfl) rfl rfl rfl (laws_toColouring_ac k p0 _ hr3) ?_
  rintro _ _ ⟨rfl, rfl⟩
  refine ⟨(fun _ h => nomatch h), (allc (trivial) (fun _ h => nomatch h)), AOps_as 18 (v' := .d (.agg (colD r3))) (H' := []) rfl rfl ?_⟩
  refine AOps_q 19 _ rfl rfl rfl (QOp_move _ _ rfl rfl) ?_
  obtain ⟨r4, hr4, h⟩ := bindO h
  refine AOps_call [] 20 _ _ _ _ _ _ _ _ _ _ rfl rfl rfl rfl rfl rfl rfl Try.call22 rfl (nodupB_sound _ rfl) rfl rfl rfl (impl_IsClosedColour_ac k r3 p1 _ hr4) ?_
  rintro _ _ ⟨rfl, rfl⟩
  refine ⟨(fun _ h => nomatch h), (allc (trivial) (allc (trivial) (fun _ h => nomatch h))), AOps_as 20 (v' := .tup [bV r4.1, iV r4.2]) (H' := []) rfl rfl ?_⟩
  refine AOps_q 16 _ rfl rfl rfl (QOp_move _ _ rfl rfl) ?_
  refine AOps_q 21 _ rfl rfl rfl (QOp_extract _ _ _ _ rfl rfl rfl) ?_
  refine AOps_q 22 _ rfl rfl rfl (QOp_extract _ _ _ _ rfl rfl rfl) ?_
  refine AOps_q 7 _ rfl rfl rfl (QOp_assign _ _ rfl rfl) ?_
  refine AOps_q 8 _ rfl rfl rfl (QOp_assign _ _ rfl rfl) ?_
  refine AOps_nil ?_
  obtain ⟨os8, hss8, hks8⟩ := bindO h
  clear h
  refine ACode_seqJ (fun E' H' => ∃ s8 : Unit, os8 = .inl s8 ∧ Weak 31 G E' H' [] []) ?_ ?_
  · have h := hss8
    clear hss8
    obtain ⟨s6, hss6, hks6⟩ := letS h
    clear h
    refine ACode_seqJ (fun E' H' => Weak 31 G E' H' [(30, bV s6)] []) ?_ ?_
    · have h := hss6
      clear hss6
      refine (ACode_region ?_)
      refine AOps_q 23 _ rfl rfl rfl (QOp_move _ _ rfl rfl) ?_
      refine AOps_q 24 _ rfl rfl rfl (QOp_move _ _ rfl rfl) ?_
      refine AOps_q 25 _ rfl rfl rfl (QOp_bneq _ _ _ _ _ _ rfl rfl rfl Try.underlying4) ?_
      refine AOps_q 26 _ rfl rfl rfl (QOp_move _ _ rfl rfl) ?_
      refine AOps_case 26 _ rfl (fun hb5 => ?_) (fun hb5 => ?_)
      · have h := iteT hb5 h
        refine AOps_skip 27 rfl rfl rfl ?_
        refine AOps_skip 28 rfl rfl rfl ?_
        refine AOps_skip 29 rfl rfl rfl ?_
        refine AOps_q 30 _ rfl rfl rfl (QOp_pick_t _ _ _ _ rfl rfl rfl) ?_
        refine AOps_nil ?_
        cases h
        exact Weak_keep 0 hm [30] [] _ _ rfl rfl rfl
      · have h := iteF hb5 h
        refine AOps_q 27 _ rfl rfl rfl (QOp_move _ _ rfl rfl) ?_
        refine AOps_q 28 _ rfl rfl rfl (QOp_move _ _ rfl rfl) ?_
        refine AOps_q 29 _ rfl rfl rfl (QOp_neq _ _ _ _ _ _ _ rfl rfl rfl) ?_
        refine AOps_q 30 _ rfl rfl rfl (QOp_pick_f _ _ _ _ rfl rfl rfl) ?_
        refine AOps_nil ?_
        cases h
        exact Weak_keep 0 hm [30] [] _ _ rfl rfl rfl
    intro E' H' hw
    refine ACode_weak hw ?_
    have h := hks6
    refine ACode_cond _ rfl (fun hb7 => ?_) (fun hb7 => ?_)
    · have h := iteT hb7 h
      refine ACode_seq (ACode_region ?_)
      refine AOps_q 4 _ rfl rfl rfl (QOp_assign _ _ rfl rfl) ?_
      refine AOps_nil ?_
      refine ACode_ret ?_
      cases h
      have h := hks8
      cases h
      exact ⟨_, _, fun r a w h => ⟨r, h⟩, _, _, [], _, (.cons (ResV_tmp _ _ rfl) .nil), rfl, rfl, rfl, rfl, rfl⟩
    · have h := iteF hb7 h
      refine ACode_skip ?_
      cases h
      exact ⟨_, rfl, Weak_keep 0 hm [] [] _ _ rfl rfl rfl⟩
  rintro E' H' ⟨s8, rfl, hw⟩
  refine ACode_weak hw ?_
  have h := hks8
  refine ACode_seq (ACode_region ?_)
  refine AOps_q 4 _ rfl rfl rfl (QOp_assign _ _ rfl rfl) ?_
  refine AOps_nil ?_
  refine ACode_ret ?_
  cases h
  exact ⟨_, _, fun r a w h => ⟨r, h⟩, _, _, [], _, (.cons (ResV_tmp _ _ rfl) .nil), rfl, rfl, rfl, rfl, rfl⟩

end Go.Proofs.Ytgebhhhdckpciaa
