/- Plain functions of the program and that the program computes them: printed by the own tool gen.py. No conditions. -/
import Derived.Test.YtjkanhdklfgghaaGen3
set_option linter.unusedVariables false
set_option linter.unusedSimpArgs false
namespace Go.Proofs.Ytjkanhdklfgghaa
open Go Go.RowKit Ab

-- loop.example/g01362/spec.l10Closed
def spec_l10Closed_l2 (p0 : Col) (p1 : Int) (x1 : Int) (x3 : Int) : Nat → Int → Option (Sum (Unit) (Sum (Unit) (Sum (Unit) (Bool))))
  | 0, _ => none
  | k2 + 1, x5 => (if decide (x5 < x3) then (((spec_l01At p0 x5 x3).bind fun r7 => (if decide (r7 = p1) then (spec_l01At p0 x3 x1).bind fun r9 => (if decide (r9 = p1) then (spec_l01At p0 x5 x1).bind fun r11 => some (!decide (r11 = p1)) else some false) else some false) : Option (Bool)).bind fun s12 => (if s12 then (((some (.inr false)).bind fun rr => some (.inr rr)).bind fun rr => some (.inr rr)).bind fun rr => some (.inr rr) else some (.inl ())) : Option (Sum (Unit) (Sum (Unit) (Sum (Unit) (Sum (Unit) (Bool)))))).bind fun os14 => (match os14 with | .inl s14 => spec_l10Closed_l2 p0 p1 x1 x3 k2 (w64 (x5 + 1)) | .inr rr => some rr) else some (.inl ()))
def spec_l10Closed_l1 (k : Nat) (p0 : Col) (p1 : Int) (x1 : Int) : Nat → Int → Option (Sum (Unit) (Sum (Unit) (Bool)))
  | 0, _ => none
  | k1 + 1, x3 => (if decide (x3 < x1) then (spec_l10Closed_l2 p0 p1 x1 x3 k 0 : Option (Sum (Unit) (Sum (Unit) (Sum (Unit) (Bool))))).bind fun os15 => (match os15 with | .inl s15 => spec_l10Closed_l1 k p0 p1 x1 k1 (w64 (x3 + 1)) | .inr rr => some rr) else some (.inl ()))
def spec_l10Closed_l0 (k : Nat) (p0 : Col) (p1 : Int) : Nat → Int → Option (Sum (Unit) (Bool))
  | 0, _ => none
  | k0 + 1, x1 => (if decide (x1 < p0.p) then (spec_l10Closed_l1 k p0 p1 x1 k 1 : Option (Sum (Unit) (Sum (Unit) (Bool)))).bind fun os16 => (match os16 with | .inl s16 => spec_l10Closed_l0 k p0 p1 k0 (w64 (x1 + 1)) | .inr rr => some rr) else some (.inl ()))
def spec_l10Closed (k : Nat) (p0 : Col) (p1 : Int) : Option (Bool) :=
  (spec_l10Closed_l0 k p0 p1 k 2 : Option (Sum (Unit) (Bool))).bind fun os17 => (match os17 with | .inl s17 => some true | .inr rr => some rr)
set_option maxRecDepth 100000 in
theorem spec_l10Closed_ac (k : Nat) (p0 : Col) (p1 : Int) (r : Bool) (h : spec_l10Closed k p0 p1 = some r) : AC Try.prog 68 [.d (.agg (colD p0)), iV p1] [] (fun res H' => res = [bV r] ∧ H' = []) := by
  refine AC_of_body true Try.func68 rfl Try.ntmps68 (rvs := [.tmp 4]) rfl rfl (fun G hG => ?_)
  have hm : G.H.length = 0 := by rw [hG]; rfl
  unfold spec_l10Closed at h
  refine ACode_seq (ACode_region ?_)
  refine AOps_boxI 2 _ _ (.agg (colD p0)) (colD p0) rfl (colD_one _) rfl rfl rfl rfl rfl ?_
  refine AOps_q 4 _ rfl rfl rfl (QOp_assign _ _ rfl rfl) ?_
  refine AOps_nil ?_
  obtain ⟨os17, hss17, hks17⟩ := bindO h
  clear h
  refine ACode_seqJ (fun E' H' => ∃ s17 : Unit, os17 = .inl s17 ∧ Weak 46 G E' H' [] []) ?_ ?_
  · have h := hss17
    clear hss17
    refine ACode_seq (ACode_region ?_)
    refine AOps_q 5 _ rfl rfl rfl (QOp_assign _ _ rfl rfl) ?_
    refine AOps_nil ?_
    refine ACode_block ?_
    refine ACode_loopW (fun k0 E H => ∃ (x1 : Int), E = [(1, iV p1), (2, .d (.pv (colD p0) 0)), (5, iV x1)] ∧ H = [] ∧ spec_l10Closed_l0 k p0 p1 k0 x1 = some os17) k _ _ (Weak_keep 0 hm [1, 2, 5] [] _ _ rfl rfl rfl) ⟨_, rfl, rfl, h⟩ ?_
    clear h
    rintro k0 E H ⟨x1, rfl, rfl, h⟩
    cases k0 with
    | zero => cases (show (none : Option (Sum (Unit) (Bool))) = some _ from h)
    | succ k0 =>
      rw [spec_l10Closed_l0] at h
      refine ACode_seq ?_
      refine ACode_seq (ACode_region ?_)
      refine AOps_q 8 _ rfl rfl rfl (QOp_move _ _ rfl rfl) ?_
      refine AOps_q 9 _ rfl rfl rfl (QOp_fieldAddr_pv _ _ _ _ _ 0 _ _ rfl Try.underlying24 rfl _ Try.sizeOf2 rfl rfl) ?_
      refine AOps_q 10 _ rfl rfl rfl (QOp_load_pv _ _ _ _ _ rfl Try.isAgg2 rfl rfl) ?_
      refine AOps_q 11 _ rfl rfl rfl (QOp_lss _ _ _ _ _ _ _ rfl rfl rfl) ?_
      refine AOps_nil ?_
      refine ACode_cond _ rfl (fun hb2 => ?_) (fun hb2 => ?_)
      · have h := iteT hb2 h
        refine ACode_skip ?_
        obtain ⟨os16, hss16, hks16⟩ := bindO h
        clear h
        refine ACode_seqJ (fun E' H' => ∃ s16 : Unit, os16 = .inl s16 ∧ Weak 46 G E' H' [(1, iV p1), (2, .d (.pv (colD p0) 0)), (5, iV x1)] []) ?_ ?_
        · have h := hss16
          clear hss16
          refine ACode_block ?_
          refine ACode_seq (ACode_region ?_)
          refine AOps_q 6 _ rfl rfl rfl (QOp_assign _ _ rfl rfl) ?_
          refine AOps_nil ?_
          refine ACode_block ?_
          refine ACode_loopW (fun k1 E H => ∃ (x3 : Int), E = [(1, iV p1), (2, .d (.pv (colD p0) 0)), (5, iV x1), (6, iV x3)] ∧ H = [] ∧ spec_l10Closed_l1 k p0 p1 x1 k1 x3 = some os16) k _ _ (Weak_keep 0 hm [1, 2, 5, 6] [] _ _ rfl rfl rfl) ⟨_, rfl, rfl, h⟩ ?_
          clear h
          rintro k1 E H ⟨x3, rfl, rfl, h⟩
          cases k1 with
          | zero => cases (show (none : Option (Sum (Unit) (Sum (Unit) (Bool)))) = some _ from h)
          | succ k1 =>
            rw [spec_l10Closed_l1] at h
            refine ACode_seq ?_
            refine ACode_seq (ACode_region ?_)
            refine AOps_q 14 _ rfl rfl rfl (QOp_move _ _ rfl rfl) ?_
            refine AOps_q 15 _ rfl rfl rfl (QOp_move _ _ rfl rfl) ?_
            refine AOps_q 16 _ rfl rfl rfl (QOp_lss _ _ _ _ _ _ _ rfl rfl rfl) ?_
            refine AOps_nil ?_
            refine ACode_cond _ rfl (fun hb4 => ?_) (fun hb4 => ?_)
            · have h := iteT hb4 h
              refine ACode_skip ?_
              obtain ⟨os15, hss15, hks15⟩ := bindO h
              clear h
              refine ACode_seqJ (fun E' H' => ∃ s15 : Unit, os15 = .inl s15 ∧ Weak 46 G E' H' [(1, iV p1), (2, .d (.pv (colD p0) 0)), (5, iV x1), (6, iV x3)] []) ?_ ?_
              · have h := hss15
                clear hss15
                refine ACode_block ?_
                refine ACode_seq (ACode_region ?_)
                refine AOps_q 7 _ rfl rfl rfl (QOp_assign _ _ rfl rfl) ?_
                refine AOps_nil ?_
                refine ACode_block ?_
                refine ACode_loopW (fun k2 E H => ∃ (x5 : Int), E = [(1, iV p1), (2, .d (.pv (colD p0) 0)), (5, iV x1), (6, iV x3), (7, iV x5)] ∧ H = [] ∧ spec_l10Closed_l2 p0 p1 x1 x3 k2 x5 = some os15) k _ _ (Weak_keep 0 hm [1, 2, 5, 6, 7] [] _ _ rfl rfl rfl) ⟨_, rfl, rfl, h⟩ ?_
                clear h
                rintro k2 E H ⟨x5, rfl, rfl, h⟩
                cases k2 with
                | zero => cases (show (none : Option (Sum (Unit) (Sum (Unit) (Sum (Unit) (Bool))))) = some _ from h)
                | succ k2 =>
                  rw [spec_l10Closed_l2] at h
                  refine ACode_seq ?_
                  refine ACode_seq (ACode_region ?_)
                  refine AOps_q 19 _ rfl rfl rfl (QOp_move _ _ rfl rfl) ?_
                  refine AOps_q 20 _ rfl rfl rfl (QOp_move _ _ rfl rfl) ?_
                  refine AOps_q 21 _ rfl rfl rfl (QOp_lss _ _ _ _ _ _ _ rfl rfl rfl) ?_
                  refine AOps_nil ?_
                  refine ACode_cond _ rfl (fun hb6 => ?_) (fun hb6 => ?_)
                  · have h := iteT hb6 h
                    refine ACode_skip ?_
                    obtain ⟨os14, hss14, hks14⟩ := bindO h
                    clear h
                    refine ACode_seqJ (fun E' H' => ∃ s14 : Unit, os14 = .inl s14 ∧ Weak 46 G E' H' [(1, iV p1), (2, .d (.pv (colD p0) 0)), (5, iV x1), (6, iV x3), (7, iV x5)] []) ?_ ?_
                    · have h := hss14
                      clear hss14
                      refine ACode_block ?_
                      obtain ⟨s12, hss12, hks12⟩ := bindO h
                      clear h
                      refine ACode_seqJ (fun E' H' => Weak 46 G E' H' [(1, iV p1), (2, .d (.pv (colD p0) 0)), (5, iV x1), (6, iV x3), (7, iV x5), (45, bV s12)] []) ?_ ?_
                      · have h := hss12
                        clear hss12
                        refine (ACode_region ?_)
                        refine AOps_q 24 _ rfl rfl rfl (QOp_loadN_pv _ _ _ _ _ _ rfl Try.isAgg24 Try.sizeOf24 rfl (colD_all _) (colD_length _)) ?_
                        refine AOps_q 25 _ rfl rfl rfl (QOp_move _ _ rfl rfl) ?_
                        refine AOps_q 26 _ rfl rfl rfl (QOp_move _ _ rfl rfl) ?_
                        obtain ⟨r7, hr7, h⟩ := bindO h
                        refine AOps_call [] 27 _ _ _ _ _ _ _ _ _ _ rfl rfl rfl rfl rfl rfl rfl Try.call64 rfl (nodupB_sound _ rfl) rfl rfl rfl (spec_l01At_ac p0 x5 x3 _ hr7) ?_
                        rintro _ _ ⟨rfl, rfl⟩
                        refine ⟨(fun _ h => nomatch h), (allc (trivial) (fun _ h => nomatch h)), AOps_as 27 (v' := iV r7) (H' := []) rfl rfl ?_⟩
                        refine AOps_q 28 _ rfl rfl rfl (QOp_move _ _ rfl rfl) ?_
                        refine AOps_q 29 _ rfl rfl rfl (QOp_eql _ _ _ _ _ _ _ rfl rfl rfl) ?_
                        refine AOps_q 30 _ rfl rfl rfl (QOp_move _ _ rfl rfl) ?_
                        refine AOps_case 30 _ rfl (fun hb8 => ?_) (fun hb8 => ?_)
                        · have h := iteT hb8 h
                          refine AOps_q 31 _ rfl rfl rfl (QOp_loadN_pv _ _ _ _ _ _ rfl Try.isAgg24 Try.sizeOf24 rfl (colD_all _) (colD_length _)) ?_
                          refine AOps_q 32 _ rfl rfl rfl (QOp_move _ _ rfl rfl) ?_
                          refine AOps_q 33 _ rfl rfl rfl (QOp_move _ _ rfl rfl) ?_
                          obtain ⟨r9, hr9, h⟩ := bindO h
                          refine AOps_call [] 34 _ _ _ _ _ _ _ _ _ _ rfl rfl rfl rfl rfl rfl rfl Try.call64 rfl (nodupB_sound _ rfl) rfl rfl rfl (spec_l01At_ac p0 x3 x1 _ hr9) ?_
                          rintro _ _ ⟨rfl, rfl⟩
                          refine ⟨(fun _ h => nomatch h), (allc (trivial) (fun _ h => nomatch h)), AOps_as 34 (v' := iV r9) (H' := []) rfl rfl ?_⟩
                          refine AOps_q 35 _ rfl rfl rfl (QOp_move _ _ rfl rfl) ?_
                          refine AOps_q 36 _ rfl rfl rfl (QOp_eql _ _ _ _ _ _ _ rfl rfl rfl) ?_
                          refine AOps_q 37 _ rfl rfl rfl (QOp_pick_t _ _ _ _ rfl rfl rfl) ?_
                          refine AOps_q 38 _ rfl rfl rfl (QOp_move _ _ rfl rfl) ?_
                          refine AOps_case 38 _ rfl (fun hb10 => ?_) (fun hb10 => ?_)
                          · have h := iteT hb10 h
                            refine AOps_q 39 _ rfl rfl rfl (QOp_loadN_pv _ _ _ _ _ _ rfl Try.isAgg24 Try.sizeOf24 rfl (colD_all _) (colD_length _)) ?_
                            refine AOps_q 40 _ rfl rfl rfl (QOp_move _ _ rfl rfl) ?_
                            refine AOps_q 41 _ rfl rfl rfl (QOp_move _ _ rfl rfl) ?_
                            obtain ⟨r11, hr11, h⟩ := bindO h
                            refine AOps_call [] 42 _ _ _ _ _ _ _ _ _ _ rfl rfl rfl rfl rfl rfl rfl Try.call64 rfl (nodupB_sound _ rfl) rfl rfl rfl (spec_l01At_ac p0 x5 x1 _ hr11) ?_
                            rintro _ _ ⟨rfl, rfl⟩
                            refine ⟨(fun _ h => nomatch h), (allc (trivial) (fun _ h => nomatch h)), AOps_as 42 (v' := iV r11) (H' := []) rfl rfl ?_⟩
                            refine AOps_q 43 _ rfl rfl rfl (QOp_move _ _ rfl rfl) ?_
                            refine AOps_q 44 _ rfl rfl rfl (QOp_neq _ _ _ _ _ _ _ rfl rfl rfl) ?_
                            refine AOps_q 45 _ rfl rfl rfl (QOp_pick_t _ _ _ _ rfl rfl rfl) ?_
                            refine AOps_nil ?_
                            cases h
                            exact Weak_keep 0 hm [1, 2, 5, 6, 7, 45] [] _ _ rfl rfl rfl
                          · have h := iteF hb10 h
                            refine AOps_skip 39 rfl rfl rfl ?_
                            refine AOps_skip 40 rfl rfl rfl ?_
                            refine AOps_skip 41 rfl rfl rfl ?_
                            refine AOps_skip 42 rfl rfl rfl ?_
                            refine AOps_skip 43 rfl rfl rfl ?_
                            refine AOps_skip 44 rfl rfl rfl ?_
                            refine AOps_q 45 _ rfl rfl rfl (QOp_pick_f _ _ _ _ rfl rfl rfl) ?_
                            refine AOps_nil ?_
                            cases h
                            exact Weak_keep 0 hm [1, 2, 5, 6, 7, 45] [] _ _ rfl rfl rfl
                        · have h := iteF hb8 h
                          refine AOps_skip 31 rfl rfl rfl ?_
                          refine AOps_skip 32 rfl rfl rfl ?_
                          refine AOps_skip 33 rfl rfl rfl ?_
                          refine AOps_skip 34 rfl rfl rfl ?_
                          refine AOps_skip 35 rfl rfl rfl ?_
                          refine AOps_skip 36 rfl rfl rfl ?_
                          refine AOps_q 37 _ rfl rfl rfl (QOp_pick_f _ _ _ _ rfl rfl rfl) ?_
                          refine AOps_q 38 _ rfl rfl rfl (QOp_move _ _ rfl rfl) ?_
                          refine AOps_skip 39 rfl rfl rfl ?_
                          refine AOps_skip 40 rfl rfl rfl ?_
                          refine AOps_skip 41 rfl rfl rfl ?_
                          refine AOps_skip 42 rfl rfl rfl ?_
                          refine AOps_skip 43 rfl rfl rfl ?_
                          refine AOps_skip 44 rfl rfl rfl ?_
                          refine AOps_q 45 _ rfl rfl rfl (QOp_pick_f _ _ _ _ rfl rfl rfl) ?_
                          refine AOps_nil ?_
                          cases h
                          exact Weak_keep 0 hm [1, 2, 5, 6, 7, 45] [] _ _ rfl rfl rfl
                      intro E' H' hw
                      refine ACode_weak hw ?_
                      have h := hks12
                      refine ACode_cond _ rfl (fun hb13 => ?_) (fun hb13 => ?_)
                      · have h := iteT hb13 h
                        refine ACode_seq (ACode_region ?_)
                        refine AOps_q 4 _ rfl rfl rfl (QOp_assign _ _ rfl rfl) ?_
                        refine AOps_nil ?_
                        refine ACode_ret ?_
                        obtain ⟨rr, hz20, h2⟩ := bindO h
                        obtain rfl := Option.some.inj h2
                        obtain rfl := Option.some.inj (show some rr = some _ from hks14)
                        have h := hz20
                        obtain ⟨rr, hz19, h2⟩ := bindO h
                        obtain rfl := Option.some.inj h2
                        obtain rfl := Option.some.inj (show some rr = some _ from hks15)
                        have h := hz19
                        obtain ⟨rr, hz18, h2⟩ := bindO h
                        obtain rfl := Option.some.inj h2
                        obtain rfl := Option.some.inj (show some rr = some _ from hks16)
                        have h := hz18
                        cases h
                        have h := hks17
                        cases h
                        exact ⟨_, _, fun r a w h => ⟨r, h⟩, _, _, [], _, (.cons (ResV_tmp _ _ rfl) .nil), rfl, rfl, rfl, rfl, rfl⟩
                      · have h := iteF hb13 h
                        refine ACode_skip ?_
                        cases h
                        exact ⟨_, rfl, Weak_keep 0 hm [1, 2, 5, 6, 7] [] _ _ rfl rfl rfl⟩
                    rintro E' H' ⟨s14, rfl, hw⟩
                    refine ACode_weak hw ?_
                    have h := hks14
                    refine (ACode_region ?_)
                    refine AOps_q 22 _ rfl rfl rfl (QOp_move _ _ rfl rfl) ?_
                    refine AOps_q 23 _ rfl rfl rfl (QOp_add _ _ _ _ _ _ _ rfl rfl rfl) ?_
                    refine AOps_q 7 _ rfl rfl rfl (QOp_assign _ _ rfl rfl) ?_
                    refine AOps_nil ?_
                    exact ⟨k2, _, _, Nat.lt_succ_self _, Weak_keep 0 hm [1, 2, 5, 6, 7] [] _ _ rfl rfl rfl, _, rfl, rfl, h⟩
                  · have h := iteF hb6 h
                    refine ACode_exit ?_
                    cases h
                    exact ⟨_, rfl, Weak_keep 0 hm [1, 2, 5, 6] [] _ _ rfl rfl rfl⟩
              rintro E' H' ⟨s15, rfl, hw⟩
              refine ACode_weak hw ?_
              have h := hks15
              refine (ACode_region ?_)
              refine AOps_q 17 _ rfl rfl rfl (QOp_move _ _ rfl rfl) ?_
              refine AOps_q 18 _ rfl rfl rfl (QOp_add _ _ _ _ _ _ _ rfl rfl rfl) ?_
              refine AOps_q 6 _ rfl rfl rfl (QOp_assign _ _ rfl rfl) ?_
              refine AOps_nil ?_
              exact ⟨k1, _, _, Nat.lt_succ_self _, Weak_keep 0 hm [1, 2, 5, 6] [] _ _ rfl rfl rfl, _, rfl, rfl, h⟩
            · have h := iteF hb4 h
              refine ACode_exit ?_
              cases h
              exact ⟨_, rfl, Weak_keep 0 hm [1, 2, 5] [] _ _ rfl rfl rfl⟩
        rintro E' H' ⟨s16, rfl, hw⟩
        refine ACode_weak hw ?_
        have h := hks16
        refine (ACode_region ?_)
        refine AOps_q 12 _ rfl rfl rfl (QOp_move _ _ rfl rfl) ?_
        refine AOps_q 13 _ rfl rfl rfl (QOp_add _ _ _ _ _ _ _ rfl rfl rfl) ?_
        refine AOps_q 5 _ rfl rfl rfl (QOp_assign _ _ rfl rfl) ?_
        refine AOps_nil ?_
        exact ⟨k0, _, _, Nat.lt_succ_self _, Weak_keep 0 hm [1, 2, 5] [] _ _ rfl rfl rfl, _, rfl, rfl, h⟩
      · have h := iteF hb2 h
        refine ACode_exit ?_
        cases h
        exact ⟨_, rfl, Weak_keep 0 hm [] [] _ _ rfl rfl rfl⟩
  rintro E' H' ⟨s17, rfl, hw⟩
  refine ACode_weak hw ?_
  have h := hks17
  refine ACode_seq (ACode_region ?_)
  refine AOps_q 4 _ rfl rfl rfl (QOp_assign _ _ rfl rfl) ?_
  refine AOps_nil ?_
  refine ACode_ret ?_
  cases h
  exact ⟨_, _, fun r a w h => ⟨r, h⟩, _, _, [], _, (.cons (ResV_tmp _ _ rfl) .nil), rfl, rfl, rfl, rfl, rfl⟩

-- loop.example/g01362/spec.OrderOf
def spec_OrderOf_l1 (p0 : Col) (x10 : Int) : Nat → Int → Int → Option (Int)
  | 0, _, _ => none
  | k1 + 1, x13, x14 => (if decide (x14 < p0.p) then (((if decide (x14 < x10) then (spec_l01At p0 x14 x10).bind fun r17 => (if decide (r17 = 0) then some true else (if decide (x10 < x14) then (spec_l01At p0 x10 x14).bind fun r20 => some (decide (r20 = 1)) else some false)) else (if decide (x10 < x14) then (spec_l01At p0 x10 x14).bind fun r22 => some (decide (r22 = 1)) else some false)) : Option (Bool)).bind fun s23 => (if s23 then some (w64 (x13 + 1)) else some x13) : Option (Int)).bind fun s25 => spec_OrderOf_l1 p0 x10 k1 s25 (w64 (x14 + 1)) else some x13)
def spec_OrderOf_l0 (k : Nat) (p0 : Col) : Nat → Int → (List Int) → Option (List Int)
  | 0, _, _ => none
  | k0 + 1, x10, x11 => (if decide (x10 < p0.p) then ((spec_OrderOf_l1 p0 x10 k 0 0 : Option (Int)).bind fun s26 => (if x11.length + ([s26]).length ≤ 1099511627776 then some (x11 ++ ([s26])) else none) : Option (List Int)).bind fun s28 => spec_OrderOf_l0 k p0 k0 (w64 (x10 + 1)) s28 else some x11)
def spec_OrderOf (k : Nat) (p0 : Col) : Option (List Int × Int) :=
  ((spec_l01Is k p0).bind fun r1 => (if !r1 then some (.inr ([], 1)) else ((if !decide (p0.k = 2) then some true else (spec_l10Closed k p0 0).bind fun r4 => (if !r4 then some true else (spec_l10Closed k p0 1).bind fun r6 => some (!r6))) : Option (Bool)).bind fun s7 => (if s7 then some (.inr ([], 5)) else some (.inl ()))) : Option (Sum (Unit) (List Int × Int))).bind fun os9 => (match os9 with | .inl s9 => (spec_OrderOf_l0 k p0 k 0 ([] : List Int) : Option (List Int)).bind fun s29 => some (s29, 0) | .inr rr => some rr)
set_option maxRecDepth 100000 in
theorem spec_OrderOf_ac (k : Nat) (p0 : Col) (r : List Int × Int) (h : spec_OrderOf k p0 = some r) : AC Try.prog 32 [.d (.agg (colD p0))] [] (fun res H' => res = [.d (.sl none (intsD r.1)), iV r.2] ∧ H' = []) := by
  refine AC_of_body true Try.func32 rfl Try.ntmps32 (rvs := [.tmp 2, .tmp 3]) rfl rfl (fun G hG => ?_)
  have hm : G.H.length = 0 := by rw [hG]; rfl
  unfold spec_OrderOf at h
  refine ACode_seq (ACode_region ?_)
  refine AOps_boxI 1 _ _ (.agg (colD p0)) (colD p0) rfl (colD_one _) rfl rfl rfl rfl rfl ?_
  refine AOps_q 2 _ rfl rfl rfl (QOp_assign _ _ rfl rfl) ?_
  refine AOps_q 3 _ rfl rfl rfl (QOp_assign _ _ rfl rfl) ?_
  refine AOps_nil ?_
  obtain ⟨os9, hss9, hks9⟩ := bindO h
  clear h
  refine ACode_seqJ (fun E' H' => ∃ s9 : Unit, os9 = .inl s9 ∧ Weak 68 G E' H' [(1, .d (.pv (colD p0) 0))] []) ?_ ?_
  · have h := hss9
    clear hss9
    refine ACode_block ?_
    refine ACode_seq (ACode_region ?_)
    refine AOps_q 9 _ rfl rfl rfl (QOp_loadN_pv _ _ _ _ _ _ rfl Try.isAgg24 Try.sizeOf24 rfl (colD_all _) (colD_length _)) ?_
    obtain ⟨r1, hr1, h⟩ := bindO h
    refine AOps_call [] 10 _ _ _ _ _ _ _ _ _ _ rfl rfl rfl rfl rfl rfl rfl Try.call67 rfl (nodupB_sound _ rfl) rfl rfl rfl (spec_l01Is_ac k p0 _ hr1) ?_
    rintro _ _ ⟨rfl, rfl⟩
    refine ⟨(fun _ h => nomatch h), (allc (trivial) (fun _ h => nomatch h)), AOps_as 10 (v' := bV r1) (H' := []) rfl rfl ?_⟩
    refine AOps_q 11 _ rfl rfl rfl (QOp_not _ _ _ rfl rfl) ?_
    refine AOps_q 8 _ rfl rfl rfl (QOp_assign _ _ rfl rfl) ?_
    refine AOps_nil ?_
    refine ACode_cond _ rfl (fun hb2 => ?_) (fun hb2 => ?_)
    · have h := iteT hb2 h
      refine ACode_seq (ACode_region ?_)
      refine AOps_q 2 _ rfl rfl rfl (QOp_assign _ _ rfl rfl) ?_
      refine AOps_q 3 _ rfl rfl rfl (QOp_assign _ _ rfl rfl) ?_
      refine AOps_nil ?_
      refine ACode_ret ?_
      cases h
      have h := hks9
      cases h
      exact ⟨_, _, fun r a w h => ⟨r, h⟩, _, _, [], _, (.cons (ResV_tmp _ _ rfl) (.cons (ResV_tmp _ _ rfl) .nil)), rfl, rfl, rfl, rfl, rfl⟩
    · have h := iteF hb2 h
      obtain ⟨s7, hss7, hks7⟩ := bindO h
      clear h
      refine ACode_seqJ (fun E' H' => Weak 68 G E' H' [(1, .d (.pv (colD p0) 0)), (12, bV s7)] []) ?_ ?_
      · have h := hss7
        clear hss7
        refine (ACode_region ?_)
        refine AOps_q 13 _ rfl rfl rfl (QOp_fieldAddr_pv _ _ _ _ _ 1 _ _ rfl Try.underlying24 rfl _ Try.sizeOf2 rfl rfl) ?_
        refine AOps_q 14 _ rfl rfl rfl (QOp_load_pv _ _ _ _ _ rfl Try.isAgg2 rfl rfl) ?_
        refine AOps_q 15 _ rfl rfl rfl (QOp_neq _ _ _ _ _ _ _ rfl rfl rfl) ?_
        refine AOps_q 16 _ rfl rfl rfl (QOp_move _ _ rfl rfl) ?_
        refine AOps_case 16 _ rfl (fun hb3 => ?_) (fun hb3 => ?_)
        · have h := iteT hb3 h
          refine AOps_skip 17 rfl rfl rfl ?_
          refine AOps_skip 18 rfl rfl rfl ?_
          refine AOps_skip 19 rfl rfl rfl ?_
          refine AOps_q 20 _ rfl rfl rfl (QOp_pick_t _ _ _ _ rfl rfl rfl) ?_
          refine AOps_q 21 _ rfl rfl rfl (QOp_move _ _ rfl rfl) ?_
          refine AOps_skip 22 rfl rfl rfl ?_
          refine AOps_skip 23 rfl rfl rfl ?_
          refine AOps_skip 24 rfl rfl rfl ?_
          refine AOps_q 25 _ rfl rfl rfl (QOp_pick_t _ _ _ _ rfl rfl rfl) ?_
          refine AOps_q 12 _ rfl rfl rfl (QOp_assign _ _ rfl rfl) ?_
          refine AOps_nil ?_
          cases h
          exact Weak_keep 0 hm [1, 12] [] _ _ rfl rfl rfl
        · have h := iteF hb3 h
          refine AOps_q 17 _ rfl rfl rfl (QOp_loadN_pv _ _ _ _ _ _ rfl Try.isAgg24 Try.sizeOf24 rfl (colD_all _) (colD_length _)) ?_
          obtain ⟨r4, hr4, h⟩ := bindO h
          refine AOps_call [] 18 _ _ _ _ _ _ _ _ _ _ rfl rfl rfl rfl rfl rfl rfl Try.call68 rfl (nodupB_sound _ rfl) rfl rfl rfl (spec_l10Closed_ac k p0 0 _ hr4) ?_
          rintro _ _ ⟨rfl, rfl⟩
          refine ⟨(fun _ h => nomatch h), (allc (trivial) (fun _ h => nomatch h)), AOps_as 18 (v' := bV r4) (H' := []) rfl rfl ?_⟩
          refine AOps_q 19 _ rfl rfl rfl (QOp_not _ _ _ rfl rfl) ?_
          refine AOps_q 20 _ rfl rfl rfl (QOp_pick_f _ _ _ _ rfl rfl rfl) ?_
          refine AOps_q 21 _ rfl rfl rfl (QOp_move _ _ rfl rfl) ?_
          refine AOps_case 21 _ rfl (fun hb5 => ?_) (fun hb5 => ?_)
          · have h := iteT hb5 h
            refine AOps_skip 22 rfl rfl rfl ?_
            refine AOps_skip 23 rfl rfl rfl ?_
            refine AOps_skip 24 rfl rfl rfl ?_
            refine AOps_q 25 _ rfl rfl rfl (QOp_pick_t _ _ _ _ rfl rfl rfl) ?_
            refine AOps_q 12 _ rfl rfl rfl (QOp_assign _ _ rfl rfl) ?_
            refine AOps_nil ?_
            cases h
            exact Weak_keep 0 hm [1, 12] [] _ _ rfl rfl rfl
          · have h := iteF hb5 h
            refine AOps_q 22 _ rfl rfl rfl (QOp_loadN_pv _ _ _ _ _ _ rfl Try.isAgg24 Try.sizeOf24 rfl (colD_all _) (colD_length _)) ?_
            obtain ⟨r6, hr6, h⟩ := bindO h
            refine AOps_call [] 23 _ _ _ _ _ _ _ _ _ _ rfl rfl rfl rfl rfl rfl rfl Try.call68 rfl (nodupB_sound _ rfl) rfl rfl rfl (spec_l10Closed_ac k p0 1 _ hr6) ?_
            rintro _ _ ⟨rfl, rfl⟩
            refine ⟨(fun _ h => nomatch h), (allc (trivial) (fun _ h => nomatch h)), AOps_as 23 (v' := bV r6) (H' := []) rfl rfl ?_⟩
            refine AOps_q 24 _ rfl rfl rfl (QOp_not _ _ _ rfl rfl) ?_
            refine AOps_q 25 _ rfl rfl rfl (QOp_pick_f _ _ _ _ rfl rfl rfl) ?_
            refine AOps_q 12 _ rfl rfl rfl (QOp_assign _ _ rfl rfl) ?_
            refine AOps_nil ?_
            cases h
            exact Weak_keep 0 hm [1, 12] [] _ _ rfl rfl rfl
      intro E' H' hw
      refine ACode_weak hw ?_
      have h := hks7
      refine ACode_cond _ rfl (fun hb8 => ?_) (fun hb8 => ?_)
      · have h := iteT hb8 h
        refine ACode_seq (ACode_region ?_)
        refine AOps_q 2 _ rfl rfl rfl (QOp_assign _ _ rfl rfl) ?_
        refine AOps_q 3 _ rfl rfl rfl (QOp_assign _ _ rfl rfl) ?_
        refine AOps_nil ?_
        refine ACode_ret ?_
        cases h
        have h := hks9
        cases h
        exact ⟨_, _, fun r a w h => ⟨r, h⟩, _, _, [], _, (.cons (ResV_tmp _ _ rfl) (.cons (ResV_tmp _ _ rfl) .nil)), rfl, rfl, rfl, rfl, rfl⟩
      · have h := iteF hb8 h
        refine ACode_skip ?_
        cases h
        exact ⟨_, rfl, Weak_keep 0 hm [1] [] _ _ rfl rfl rfl⟩
  rintro E' H' ⟨s9, rfl, hw⟩
  refine ACode_weak hw ?_
  have h := hks9
  refine ACode_seq (ACode_region ?_)
  refine AOps_buildSlice 26 _ _ _ [] (intsD ([] : List Int)) _ rfl rfl rfl rfl rfl (by decide) Try.underlying38 Try.sizeOf2 (zero_of Try.typeInfo2 rfl) rfl rfl (intsD_one _) ?_
  refine AOps_q 4 _ rfl rfl rfl (QOp_assign _ _ rfl rfl) ?_
  refine AOps_nil ?_
  obtain ⟨s29, hss29, hks29⟩ := bindO h
  clear h
  refine ACode_seqJ (fun E' H' => Weak 68 G E' H' [(4, .vec 0 0)] [.vec 0 (intsD s29)]) ?_ ?_
  · have h := hss29
    clear hss29
    refine ACode_seq (ACode_region ?_)
    refine AOps_q 5 _ rfl rfl rfl (QOp_assign _ _ rfl rfl) ?_
    refine AOps_nil ?_
    refine ACode_block ?_
    refine ACode_loopW (fun k0 E H => ∃ (x10 : Int) (x11 : List Int), E = [(1, .d (.pv (colD p0) 0)), (4, .vec 0 0), (5, iV x10)] ∧ H = [.vec 0 (intsD x11)] ∧ spec_OrderOf_l0 k p0 k0 x10 x11 = some s29) k _ _ (Weak_keep 0 hm [1, 4, 5] [0] _ _ rfl rfl rfl) ⟨_, _, rfl, rfl, h⟩ ?_
    clear h
    rintro k0 E H ⟨x10, x11, rfl, rfl, h⟩
    cases k0 with
    | zero => cases (show (none : Option (List Int)) = some _ from h)
    | succ k0 =>
      rw [spec_OrderOf_l0] at h
      refine ACode_seq ?_
      refine ACode_seq (ACode_region ?_)
      refine AOps_q 27 _ rfl rfl rfl (QOp_move _ _ rfl rfl) ?_
      refine AOps_q 28 _ rfl rfl rfl (QOp_fieldAddr_pv _ _ _ _ _ 0 _ _ rfl Try.underlying24 rfl _ Try.sizeOf2 rfl rfl) ?_
      refine AOps_q 29 _ rfl rfl rfl (QOp_load_pv _ _ _ _ _ rfl Try.isAgg2 rfl rfl) ?_
      refine AOps_q 30 _ rfl rfl rfl (QOp_lss _ _ _ _ _ _ _ rfl rfl rfl) ?_
      refine AOps_nil ?_
      refine ACode_cond _ rfl (fun hb12 => ?_) (fun hb12 => ?_)
      · have h := iteT hb12 h
        refine ACode_skip ?_
        obtain ⟨s28, hss28, hks28⟩ := bindO h
        clear h
        refine ACode_seqJ (fun E' H' => Weak 68 G E' H' [(1, .d (.pv (colD p0) 0)), (4, .vec 0 0), (5, iV x10)] [.vec 0 (intsD s28)]) ?_ ?_
        · have h := hss28
          clear hss28
          refine ACode_block ?_
          refine ACode_seq (ACode_region ?_)
          refine AOps_q 6 _ rfl rfl rfl (QOp_assign _ _ rfl rfl) ?_
          refine AOps_nil ?_
          obtain ⟨s26, hss26, hks26⟩ := bindO h
          clear h
          refine ACode_seqJ (fun E' H' => Weak 68 G E' H' [(1, .d (.pv (colD p0) 0)), (4, .vec 0 0), (5, iV x10), (6, iV s26)] [.vec 0 (intsD x11)]) ?_ ?_
          · have h := hss26
            clear hss26
            refine ACode_seq (ACode_region ?_)
            refine AOps_q 7 _ rfl rfl rfl (QOp_assign _ _ rfl rfl) ?_
            refine AOps_nil ?_
            refine ACode_block ?_
            refine ACode_loopW (fun k1 E H => ∃ (x13 : Int) (x14 : Int), E = [(1, .d (.pv (colD p0) 0)), (4, .vec 0 0), (5, iV x10), (6, iV x13), (7, iV x14)] ∧ H = [.vec 0 (intsD x11)] ∧ spec_OrderOf_l1 p0 x10 k1 x13 x14 = some s26) k _ _ (Weak_keep 0 hm [1, 4, 5, 6, 7] [0] _ _ rfl rfl rfl) ⟨_, _, rfl, rfl, h⟩ ?_
            clear h
            rintro k1 E H ⟨x13, x14, rfl, rfl, h⟩
            cases k1 with
            | zero => cases (show (none : Option (Int)) = some _ from h)
            | succ k1 =>
              rw [spec_OrderOf_l1] at h
              refine ACode_seq ?_
              refine ACode_seq (ACode_region ?_)
              refine AOps_q 33 _ rfl rfl rfl (QOp_move _ _ rfl rfl) ?_
              refine AOps_q 34 _ rfl rfl rfl (QOp_fieldAddr_pv _ _ _ _ _ 0 _ _ rfl Try.underlying24 rfl _ Try.sizeOf2 rfl rfl) ?_
              refine AOps_q 35 _ rfl rfl rfl (QOp_load_pv _ _ _ _ _ rfl Try.isAgg2 rfl rfl) ?_
              refine AOps_q 36 _ rfl rfl rfl (QOp_lss _ _ _ _ _ _ _ rfl rfl rfl) ?_
              refine AOps_nil ?_
              refine ACode_cond _ rfl (fun hb15 => ?_) (fun hb15 => ?_)
              · have h := iteT hb15 h
                refine ACode_skip ?_
                obtain ⟨s25, hss25, hks25⟩ := bindO h
                clear h
                refine ACode_seqJ (fun E' H' => Weak 68 G E' H' [(1, .d (.pv (colD p0) 0)), (4, .vec 0 0), (5, iV x10), (6, iV s25), (7, iV x14)] [.vec 0 (intsD x11)]) ?_ ?_
                · have h := hss25
                  clear hss25
                  refine ACode_block ?_
                  obtain ⟨s23, hss23, hks23⟩ := bindO h
                  clear h
                  refine ACode_seqJ (fun E' H' => Weak 68 G E' H' [(1, .d (.pv (colD p0) 0)), (4, .vec 0 0), (5, iV x10), (6, iV x13), (7, iV x14), (60, bV s23)] [.vec 0 (intsD x11)]) ?_ ?_
                  · have h := hss23
                    clear hss23
                    refine (ACode_region ?_)
                    refine AOps_q 39 _ rfl rfl rfl (QOp_move _ _ rfl rfl) ?_
                    refine AOps_q 40 _ rfl rfl rfl (QOp_move _ _ rfl rfl) ?_
                    refine AOps_q 41 _ rfl rfl rfl (QOp_lss _ _ _ _ _ _ _ rfl rfl rfl) ?_
                    refine AOps_q 42 _ rfl rfl rfl (QOp_move _ _ rfl rfl) ?_
                    refine AOps_case 42 _ rfl (fun hb16 => ?_) (fun hb16 => ?_)
                    · have h := iteT hb16 h
                      refine AOps_q 43 _ rfl rfl rfl (QOp_loadN_pv _ _ _ _ _ _ rfl Try.isAgg24 Try.sizeOf24 rfl (colD_all _) (colD_length _)) ?_
                      refine AOps_q 44 _ rfl rfl rfl (QOp_move _ _ rfl rfl) ?_
                      refine AOps_q 45 _ rfl rfl rfl (QOp_move _ _ rfl rfl) ?_
                      obtain ⟨r17, hr17, h⟩ := bindO h
                      refine AOps_call [] 46 _ _ _ _ _ _ _ _ _ _ rfl rfl rfl rfl rfl rfl rfl Try.call64 rfl (nodupB_sound _ rfl) rfl rfl rfl (spec_l01At_ac p0 x14 x10 _ hr17) ?_
                      rintro _ _ ⟨rfl, rfl⟩
                      refine ⟨(fun _ h => nomatch h), (allc (trivial) (fun _ h => nomatch h)), AOps_as 46 (v' := iV r17) (H' := [.vec 0 (intsD x11)]) rfl rfl ?_⟩
                      refine AOps_q 47 _ rfl rfl rfl (QOp_eql _ _ _ _ _ _ _ rfl rfl rfl) ?_
                      refine AOps_q 48 _ rfl rfl rfl (QOp_pick_t _ _ _ _ rfl rfl rfl) ?_
                      refine AOps_q 49 _ rfl rfl rfl (QOp_move _ _ rfl rfl) ?_
                      refine AOps_case 49 _ rfl (fun hb18 => ?_) (fun hb18 => ?_)
                      · have h := iteT hb18 h
                        refine AOps_skip 50 rfl rfl rfl ?_
                        refine AOps_skip 51 rfl rfl rfl ?_
                        refine AOps_skip 52 rfl rfl rfl ?_
                        refine AOps_skip 53 rfl rfl rfl ?_
                        refine AOps_skip 54 rfl rfl rfl ?_
                        refine AOps_skip 55 rfl rfl rfl ?_
                        refine AOps_skip 56 rfl rfl rfl ?_
                        refine AOps_skip 57 rfl rfl rfl ?_
                        refine AOps_skip 58 rfl rfl rfl ?_
                        refine AOps_skip 59 rfl rfl rfl ?_
                        refine AOps_q 60 _ rfl rfl rfl (QOp_pick_t _ _ _ _ rfl rfl rfl) ?_
                        refine AOps_nil ?_
                        cases h
                        exact Weak_keep 0 hm [1, 4, 5, 6, 7, 60] [0] _ _ rfl rfl rfl
                      · have h := iteF hb18 h
                        refine AOps_q 50 _ rfl rfl rfl (QOp_move _ _ rfl rfl) ?_
                        refine AOps_q 51 _ rfl rfl rfl (QOp_move _ _ rfl rfl) ?_
                        refine AOps_q 52 _ rfl rfl rfl (QOp_gtr _ _ _ _ _ _ _ rfl rfl rfl) ?_
                        refine AOps_q 53 _ rfl rfl rfl (QOp_move _ _ rfl rfl) ?_
                        refine AOps_case 53 _ rfl (fun hb19 => ?_) (fun hb19 => ?_)
                        · have h := iteT hb19 h
                          refine AOps_q 54 _ rfl rfl rfl (QOp_loadN_pv _ _ _ _ _ _ rfl Try.isAgg24 Try.sizeOf24 rfl (colD_all _) (colD_length _)) ?_
                          refine AOps_q 55 _ rfl rfl rfl (QOp_move _ _ rfl rfl) ?_
                          refine AOps_q 56 _ rfl rfl rfl (QOp_move _ _ rfl rfl) ?_
                          obtain ⟨r20, hr20, h⟩ := bindO h
                          refine AOps_call [] 57 _ _ _ _ _ _ _ _ _ _ rfl rfl rfl rfl rfl rfl rfl Try.call64 rfl (nodupB_sound _ rfl) rfl rfl rfl (spec_l01At_ac p0 x10 x14 _ hr20) ?_
                          rintro _ _ ⟨rfl, rfl⟩
                          refine ⟨(fun _ h => nomatch h), (allc (trivial) (fun _ h => nomatch h)), AOps_as 57 (v' := iV r20) (H' := [.vec 0 (intsD x11)]) rfl rfl ?_⟩
                          refine AOps_q 58 _ rfl rfl rfl (QOp_eql _ _ _ _ _ _ _ rfl rfl rfl) ?_
                          refine AOps_q 59 _ rfl rfl rfl (QOp_pick_t _ _ _ _ rfl rfl rfl) ?_
                          refine AOps_q 60 _ rfl rfl rfl (QOp_pick_f _ _ _ _ rfl rfl rfl) ?_
                          refine AOps_nil ?_
                          cases h
                          exact Weak_keep 0 hm [1, 4, 5, 6, 7, 60] [0] _ _ rfl rfl rfl
                        · have h := iteF hb19 h
                          refine AOps_skip 54 rfl rfl rfl ?_
                          refine AOps_skip 55 rfl rfl rfl ?_
                          refine AOps_skip 56 rfl rfl rfl ?_
                          refine AOps_skip 57 rfl rfl rfl ?_
                          refine AOps_skip 58 rfl rfl rfl ?_
                          refine AOps_q 59 _ rfl rfl rfl (QOp_pick_f _ _ _ _ rfl rfl rfl) ?_
                          refine AOps_q 60 _ rfl rfl rfl (QOp_pick_f _ _ _ _ rfl rfl rfl) ?_
                          refine AOps_nil ?_
                          cases h
                          exact Weak_keep 0 hm [1, 4, 5, 6, 7, 60] [0] _ _ rfl rfl rfl
                    · have h := iteF hb16 h
                      refine AOps_skip 43 rfl rfl rfl ?_
                      refine AOps_skip 44 rfl rfl rfl ?_
                      refine AOps_skip 45 rfl rfl rfl ?_
                      refine AOps_skip 46 rfl rfl rfl ?_
                      refine AOps_skip 47 rfl rfl rfl ?_
                      refine AOps_q 48 _ rfl rfl rfl (QOp_pick_f _ _ _ _ rfl rfl rfl) ?_
                      refine AOps_q 49 _ rfl rfl rfl (QOp_move _ _ rfl rfl) ?_
                      refine AOps_q 50 _ rfl rfl rfl (QOp_move _ _ rfl rfl) ?_
                      refine AOps_q 51 _ rfl rfl rfl (QOp_move _ _ rfl rfl) ?_
                      refine AOps_q 52 _ rfl rfl rfl (QOp_gtr _ _ _ _ _ _ _ rfl rfl rfl) ?_
                      refine AOps_q 53 _ rfl rfl rfl (QOp_move _ _ rfl rfl) ?_
                      refine AOps_case 53 _ rfl (fun hb21 => ?_) (fun hb21 => ?_)
                      · have h := iteT hb21 h
                        refine AOps_q 54 _ rfl rfl rfl (QOp_loadN_pv _ _ _ _ _ _ rfl Try.isAgg24 Try.sizeOf24 rfl (colD_all _) (colD_length _)) ?_
                        refine AOps_q 55 _ rfl rfl rfl (QOp_move _ _ rfl rfl) ?_
                        refine AOps_q 56 _ rfl rfl rfl (QOp_move _ _ rfl rfl) ?_
                        obtain ⟨r22, hr22, h⟩ := bindO h
                        refine AOps_call [] 57 _ _ _ _ _ _ _ _ _ _ rfl rfl rfl rfl rfl rfl rfl Try.call64 rfl (nodupB_sound _ rfl) rfl rfl rfl (spec_l01At_ac p0 x10 x14 _ hr22) ?_
                        rintro _ _ ⟨rfl, rfl⟩
                        refine ⟨(fun _ h => nomatch h), (allc (trivial) (fun _ h => nomatch h)), AOps_as 57 (v' := iV r22) (H' := [.vec 0 (intsD x11)]) rfl rfl ?_⟩
                        refine AOps_q 58 _ rfl rfl rfl (QOp_eql _ _ _ _ _ _ _ rfl rfl rfl) ?_
                        refine AOps_q 59 _ rfl rfl rfl (QOp_pick_t _ _ _ _ rfl rfl rfl) ?_
                        refine AOps_q 60 _ rfl rfl rfl (QOp_pick_f _ _ _ _ rfl rfl rfl) ?_
                        refine AOps_nil ?_
                        cases h
                        exact Weak_keep 0 hm [1, 4, 5, 6, 7, 60] [0] _ _ rfl rfl rfl
                      · have h := iteF hb21 h
                        refine AOps_skip 54 rfl rfl rfl ?_
                        refine AOps_skip 55 rfl rfl rfl ?_
                        refine AOps_skip 56 rfl rfl rfl ?_
                        refine AOps_skip 57 rfl rfl rfl ?_
                        refine AOps_skip 58 rfl rfl rfl ?_
                        refine AOps_q 59 _ rfl rfl rfl (QOp_pick_f _ _ _ _ rfl rfl rfl) ?_
                        refine AOps_q 60 _ rfl rfl rfl (QOp_pick_f _ _ _ _ rfl rfl rfl) ?_
                        refine AOps_nil ?_
                        cases h
                        exact Weak_keep 0 hm [1, 4, 5, 6, 7, 60] [0] _ _ rfl rfl rfl
                  intro E' H' hw
                  refine ACode_weak hw ?_
                  have h := hks23
                  refine ACode_cond _ rfl (fun hb24 => ?_) (fun hb24 => ?_)
                  · have h := iteT hb24 h
                    refine (ACode_region ?_)
                    refine AOps_q 61 _ rfl rfl rfl (QOp_move _ _ rfl rfl) ?_
                    refine AOps_q 62 _ rfl rfl rfl (QOp_add _ _ _ _ _ _ _ rfl rfl rfl) ?_
                    refine AOps_q 6 _ rfl rfl rfl (QOp_assign _ _ rfl rfl) ?_
                    refine AOps_nil ?_
                    cases h
                    exact Weak_keep 0 hm [1, 4, 5, 6, 7] [0] _ _ rfl rfl rfl
                  · have h := iteF hb24 h
                    refine ACode_skip ?_
                    cases h
                    exact Weak_keep 0 hm [1, 4, 5, 6, 7] [0] _ _ rfl rfl rfl
                intro E' H' hw
                refine ACode_weak hw ?_
                have h := hks25
                refine (ACode_region ?_)
                refine AOps_q 37 _ rfl rfl rfl (QOp_move _ _ rfl rfl) ?_
                refine AOps_q 38 _ rfl rfl rfl (QOp_add _ _ _ _ _ _ _ rfl rfl rfl) ?_
                refine AOps_q 7 _ rfl rfl rfl (QOp_assign _ _ rfl rfl) ?_
                refine AOps_nil ?_
                exact ⟨k1, _, _, Nat.lt_succ_self _, Weak_keep 0 hm [1, 4, 5, 6, 7] [0] _ _ rfl rfl rfl, _, _, rfl, rfl, h⟩
              · have h := iteF hb15 h
                refine ACode_exit ?_
                cases h
                exact Weak_keep 0 hm [1, 4, 5, 6] [0] _ _ rfl rfl rfl
          intro E' H' hw
          refine ACode_weak hw ?_
          have h := hks26
          refine (ACode_region ?_)
          refine AOps_q 63 _ rfl rfl rfl (QOp_move _ _ rfl rfl) ?_
          refine AOps_q 64 _ rfl rfl rfl (QOp_move _ _ rfl rfl) ?_
          refine AOps_buildSlice 65 _ _ _ [_] (intsD ([s26])) _ rfl rfl rfl rfl rfl (by decide) Try.underlying38 Try.sizeOf2 (zero_of Try.typeInfo2 rfl) rfl rfl (intsD_one _) ?_
          obtain ⟨hc27, h⟩ := guardO h
          refine AOps_append 66 _ _ _ _ _ _ _ _ _ _ _ _ rfl rfl rfl rfl rfl rfl rfl Try.underlying38 Try.type2 rfl rfl rfl (by decide) rfl rfl rfl rfl (intsD_one _) (by rw [intsD_length, intsD_length]; exact hc27) ?_
          rw [intsD_app]
          refine AOps_q 4 _ rfl rfl rfl (QOp_assign _ _ rfl rfl) ?_
          refine AOps_nil ?_
          cases h
          exact Weak_trans (Weak_keep 0 hm [1, 4, 5] [0] _ _ rfl rfl rfl) (Weak_reset 0 hm [1, 4, 5] _ _ rfl rfl)
        intro E' H' hw
        refine ACode_weak hw ?_
        have h := hks28
        refine (ACode_region ?_)
        refine AOps_q 31 _ rfl rfl rfl (QOp_move _ _ rfl rfl) ?_
        refine AOps_q 32 _ rfl rfl rfl (QOp_add _ _ _ _ _ _ _ rfl rfl rfl) ?_
        refine AOps_q 5 _ rfl rfl rfl (QOp_assign _ _ rfl rfl) ?_
        refine AOps_nil ?_
        exact ⟨k0, _, _, Nat.lt_succ_self _, Weak_keep 0 hm [1, 4, 5] [0] _ _ rfl rfl rfl, _, _, rfl, rfl, h⟩
      · have h := iteF hb12 h
        refine ACode_exit ?_
        cases h
        exact Weak_keep 0 hm [4] [0] _ _ rfl rfl rfl
  intro E' H' hw
  refine ACode_weak hw ?_
  have h := hks29
  refine ACode_seq (ACode_region ?_)
  refine AOps_q 67 _ rfl rfl rfl (QOp_move _ _ rfl rfl) ?_
  refine AOps_q 2 _ rfl rfl rfl (QOp_assign _ _ rfl rfl) ?_
  refine AOps_q 3 _ rfl rfl rfl (QOp_assign _ _ rfl rfl) ?_
  refine AOps_nil ?_
  refine ACode_ret ?_
  cases h
  exact ⟨_, _, fun r a w h => ⟨r, h⟩, _, _, [], _, (.cons (ResV_tmp _ _ rfl) (.cons (ResV_tmp _ _ rfl) .nil)), rfl, rfl, rfl, rfl, rfl⟩

-- loop.example/g01362/impl.always
def impl_always : Bool :=
  true
set_option maxRecDepth 100000 in
theorem impl_always_ac : AC Try.prog 69 [] [] (fun res H' => res = [bV (impl_always)] ∧ H' = []) := by
  refine AC_of_body true Try.func69 rfl Try.ntmps69 (rvs := [.tmp 0]) rfl rfl (fun G hG => ?_)
  have hm : G.H.length = 0 := by rw [hG]; rfl
  obtain ⟨r, h⟩ : ∃ r, impl_always = r := ⟨_, rfl⟩
  rw [h]
  unfold impl_always at h
  refine ACode_seq (ACode_region ?_)
  refine AOps_q 0 _ rfl rfl rfl (QOp_assign _ _ rfl rfl) ?_
  refine AOps_nil ?_
  refine ACode_seq (ACode_region ?_)
  refine AOps_q 0 _ rfl rfl rfl (QOp_assign _ _ rfl rfl) ?_
  refine AOps_nil ?_
  refine ACode_ret ?_
  cases h
  exact ⟨_, _, fun r a w h => ⟨r, h⟩, _, _, [], _, (.cons (ResV_tmp _ _ rfl) .nil), rfl, rfl, rfl, rfl, rfl⟩

-- (*loop.example/g01362/impl.Colouring).isClosedColour
def impl_Colouring_isClosedColour_l2 (p0 : Col) (p1 : Int) (x1 : Int) (x3 : Int) : Nat → Int → Option (Sum (Unit) (Sum (Unit) (Sum (Unit) (Bool))))
  | 0, _ => none
  | k2 + 1, x5 => (if decide (x5 < x3) then (((impl_Colouring_at p0 x5 x3).bind fun r7 => (if decide (r7 = p1) then (impl_Colouring_at p0 x3 x1).bind fun r9 => (if decide (r9 = p1) then (impl_Colouring_at p0 x5 x1).bind fun r11 => some (!decide (r11 = p1)) else some false) else some false) : Option (Bool)).bind fun s12 => (if s12 then (((some (.inr false)).bind fun rr => some (.inr rr)).bind fun rr => some (.inr rr)).bind fun rr => some (.inr rr) else some (.inl ())) : Option (Sum (Unit) (Sum (Unit) (Sum (Unit) (Sum (Unit) (Bool)))))).bind fun os14 => (match os14 with | .inl s14 => impl_Colouring_isClosedColour_l2 p0 p1 x1 x3 k2 (w64 (x5 + 1)) | .inr rr => some rr) else some (.inl ()))
def impl_Colouring_isClosedColour_l1 (k : Nat) (p0 : Col) (p1 : Int) (x1 : Int) : Nat → Int → Option (Sum (Unit) (Sum (Unit) (Bool)))
  | 0, _ => none
  | k1 + 1, x3 => (if decide (x3 < x1) then (impl_Colouring_isClosedColour_l2 p0 p1 x1 x3 k 0 : Option (Sum (Unit) (Sum (Unit) (Sum (Unit) (Bool))))).bind fun os15 => (match os15 with | .inl s15 => impl_Colouring_isClosedColour_l1 k p0 p1 x1 k1 (w64 (x3 + 1)) | .inr rr => some rr) else some (.inl ()))
def impl_Colouring_isClosedColour_l0 (k : Nat) (p0 : Col) (p1 : Int) : Nat → Int → Option (Sum (Unit) (Bool))
  | 0, _ => none
  | k0 + 1, x1 => (if decide (x1 < p0.p) then (impl_Colouring_isClosedColour_l1 k p0 p1 x1 k 0 : Option (Sum (Unit) (Sum (Unit) (Bool)))).bind fun os16 => (match os16 with | .inl s16 => impl_Colouring_isClosedColour_l0 k p0 p1 k0 (w64 (x1 + 1)) | .inr rr => some rr) else some (.inl ()))
def impl_Colouring_isClosedColour (k : Nat) (p0 : Col) (p1 : Int) : Option (Bool) :=
  (impl_Colouring_isClosedColour_l0 k p0 p1 k 0 : Option (Sum (Unit) (Bool))).bind fun os17 => (match os17 with | .inl s17 => some true | .inr rr => some rr)
set_option maxRecDepth 100000 in
theorem impl_Colouring_isClosedColour_ac (k : Nat) (p0 : Col) (p1 : Int) (r : Bool) (h : impl_Colouring_isClosedColour k p0 p1 = some r) : AC Try.prog 70 [.d (.pv (colD p0) 0), iV p1] [] (fun res H' => res = [bV r] ∧ H' = []) := by
  refine AC_of_body true Try.func70 rfl Try.ntmps70 (rvs := [.tmp 4]) rfl rfl (fun G hG => ?_)
  have hm : G.H.length = 0 := by rw [hG]; rfl
  unfold impl_Colouring_isClosedColour at h
  refine ACode_seq (ACode_region ?_)
  refine AOps_q 4 _ rfl rfl rfl (QOp_assign _ _ rfl rfl) ?_
  refine AOps_nil ?_
  obtain ⟨os17, hss17, hks17⟩ := bindO h
  clear h
  refine ACode_seqJ (fun E' H' => ∃ s17 : Unit, os17 = .inl s17 ∧ Weak 48 G E' H' [] []) ?_ ?_
  · have h := hss17
    clear hss17
    refine ACode_seq (ACode_region ?_)
    refine AOps_q 8 _ rfl rfl rfl (QOp_move _ _ rfl rfl) ?_
    refine AOps_q 9 _ rfl rfl rfl (QOp_nilCheck_pv _ _ _ rfl rfl) ?_
    refine AOps_q 10 _ rfl rfl rfl (QOp_fieldAddr_pv _ _ _ _ _ 0 _ _ rfl Try.underlying24 rfl _ Try.sizeOf2 rfl rfl) ?_
    refine AOps_q 11 _ rfl rfl rfl (QOp_load_pv _ _ _ _ _ rfl Try.isAgg2 rfl rfl) ?_
    refine AOps_q 12 _ rfl rfl rfl (QOp_move _ _ rfl rfl) ?_
    refine AOps_nil ?_
    refine ACode_block ?_
    refine ACode_loopW (fun k0 E H => ∃ (x1 : Int), E = [(0, .d (.pv (colD p0) 0)), (1, iV p1), (11, iV p0.p), (12, iV x1)] ∧ H = [] ∧ impl_Colouring_isClosedColour_l0 k p0 p1 k0 x1 = some os17) k _ _ (Weak_keep 0 hm [0, 1, 11, 12] [] _ _ rfl rfl rfl) ⟨_, rfl, rfl, h⟩ ?_
    clear h
    rintro k0 E H ⟨x1, rfl, rfl, h⟩
    cases k0 with
    | zero => cases (show (none : Option (Sum (Unit) (Bool))) = some _ from h)
    | succ k0 =>
      rw [impl_Colouring_isClosedColour_l0] at h
      refine ACode_seq (ACode_region ?_)
      refine AOps_q 13 _ rfl rfl rfl (QOp_lss _ _ _ _ _ _ _ rfl rfl rfl) ?_
      refine AOps_nil ?_
      refine ACode_seq ?_
      refine ACode_cond _ rfl (fun hb2 => ?_) (fun hb2 => ?_)
      · have h := iteT hb2 h
        refine ACode_skip ?_
        obtain ⟨os16, hss16, hks16⟩ := bindO h
        clear h
        refine ACode_seqJ (fun E' H' => ∃ s16 : Unit, os16 = .inl s16 ∧ Weak 48 G E' H' [(0, .d (.pv (colD p0) 0)), (1, iV p1), (11, iV p0.p), (12, iV x1)] []) ?_ ?_
        · have h := hss16
          clear hss16
          refine ACode_block ?_
          refine ACode_seq (ACode_region ?_)
          refine AOps_q 14 _ rfl rfl rfl (QOp_move _ _ rfl rfl) ?_
          refine AOps_q 5 _ rfl rfl rfl (QOp_assign _ _ rfl rfl) ?_
          refine AOps_nil ?_
          refine ACode_seq (ACode_region ?_)
          refine AOps_q 15 _ rfl rfl rfl (QOp_move _ _ rfl rfl) ?_
          refine AOps_q 16 _ rfl rfl rfl (QOp_move _ _ rfl rfl) ?_
          refine AOps_nil ?_
          refine ACode_block ?_
          refine ACode_loopW (fun k1 E H => ∃ (x3 : Int), E = [(0, .d (.pv (colD p0) 0)), (1, iV p1), (5, iV x1), (11, iV p0.p), (12, iV x1), (15, iV x1), (16, iV x3)] ∧ H = [] ∧ impl_Colouring_isClosedColour_l1 k p0 p1 x1 k1 x3 = some os16) k _ _ (Weak_keep 0 hm [0, 1, 5, 11, 12, 15, 16] [] _ _ rfl rfl rfl) ⟨_, rfl, rfl, h⟩ ?_
          clear h
          rintro k1 E H ⟨x3, rfl, rfl, h⟩
          cases k1 with
          | zero => cases (show (none : Option (Sum (Unit) (Sum (Unit) (Bool)))) = some _ from h)
          | succ k1 =>
            rw [impl_Colouring_isClosedColour_l1] at h
            refine ACode_seq (ACode_region ?_)
            refine AOps_q 17 _ rfl rfl rfl (QOp_lss _ _ _ _ _ _ _ rfl rfl rfl) ?_
            refine AOps_nil ?_
            refine ACode_seq ?_
            refine ACode_cond _ rfl (fun hb4 => ?_) (fun hb4 => ?_)
            · have h := iteT hb4 h
              refine ACode_skip ?_
              obtain ⟨os15, hss15, hks15⟩ := bindO h
              clear h
              refine ACode_seqJ (fun E' H' => ∃ s15 : Unit, os15 = .inl s15 ∧ Weak 48 G E' H' [(0, .d (.pv (colD p0) 0)), (1, iV p1), (5, iV x1), (11, iV p0.p), (12, iV x1), (15, iV x1), (16, iV x3)] []) ?_ ?_
              · have h := hss15
                clear hss15
                refine ACode_block ?_
                refine ACode_seq (ACode_region ?_)
                refine AOps_q 18 _ rfl rfl rfl (QOp_move _ _ rfl rfl) ?_
                refine AOps_q 6 _ rfl rfl rfl (QOp_assign _ _ rfl rfl) ?_
                refine AOps_nil ?_
                refine ACode_seq (ACode_region ?_)
                refine AOps_q 19 _ rfl rfl rfl (QOp_move _ _ rfl rfl) ?_
                refine AOps_q 20 _ rfl rfl rfl (QOp_move _ _ rfl rfl) ?_
                refine AOps_nil ?_
                refine ACode_block ?_
                refine ACode_loopW (fun k2 E H => ∃ (x5 : Int), E = [(0, .d (.pv (colD p0) 0)), (1, iV p1), (5, iV x1), (6, iV x3), (11, iV p0.p), (12, iV x1), (15, iV x1), (16, iV x3), (19, iV x3), (20, iV x5)] ∧ H = [] ∧ impl_Colouring_isClosedColour_l2 p0 p1 x1 x3 k2 x5 = some os15) k _ _ (Weak_keep 0 hm [0, 1, 5, 6, 11, 12, 15, 16, 19, 20] [] _ _ rfl rfl rfl) ⟨_, rfl, rfl, h⟩ ?_
                clear h
                rintro k2 E H ⟨x5, rfl, rfl, h⟩
                cases k2 with
                | zero => cases (show (none : Option (Sum (Unit) (Sum (Unit) (Sum (Unit) (Bool))))) = some _ from h)
                | succ k2 =>
                  rw [impl_Colouring_isClosedColour_l2] at h
                  refine ACode_seq (ACode_region ?_)
                  refine AOps_q 21 _ rfl rfl rfl (QOp_lss _ _ _ _ _ _ _ rfl rfl rfl) ?_
                  refine AOps_nil ?_
                  refine ACode_seq ?_
                  refine ACode_cond _ rfl (fun hb6 => ?_) (fun hb6 => ?_)
                  · have h := iteT hb6 h
                    refine ACode_skip ?_
                    obtain ⟨os14, hss14, hks14⟩ := bindO h
                    clear h
                    refine ACode_seqJ (fun E' H' => ∃ s14 : Unit, os14 = .inl s14 ∧ Weak 48 G E' H' [(0, .d (.pv (colD p0) 0)), (1, iV p1), (5, iV x1), (6, iV x3), (11, iV p0.p), (12, iV x1), (15, iV x1), (16, iV x3), (19, iV x3), (20, iV x5)] []) ?_ ?_
                    · have h := hss14
                      clear hss14
                      refine ACode_block ?_
                      refine ACode_seq (ACode_region ?_)
                      refine AOps_q 22 _ rfl rfl rfl (QOp_move _ _ rfl rfl) ?_
                      refine AOps_q 7 _ rfl rfl rfl (QOp_assign _ _ rfl rfl) ?_
                      refine AOps_nil ?_
                      obtain ⟨s12, hss12, hks12⟩ := bindO h
                      clear h
                      refine ACode_seqJ (fun E' H' => Weak 48 G E' H' [(0, .d (.pv (colD p0) 0)), (1, iV p1), (5, iV x1), (6, iV x3), (11, iV p0.p), (12, iV x1), (15, iV x1), (16, iV x3), (19, iV x3), (20, iV x5), (44, bV s12)] []) ?_ ?_
                      · have h := hss12
                        clear hss12
                        refine (ACode_region ?_)
                        refine AOps_q 23 _ rfl rfl rfl (QOp_move _ _ rfl rfl) ?_
                        refine AOps_q 24 _ rfl rfl rfl (QOp_move _ _ rfl rfl) ?_
                        refine AOps_q 25 _ rfl rfl rfl (QOp_move _ _ rfl rfl) ?_
                        obtain ⟨r7, hr7, h⟩ := bindO h
                        refine AOps_call [] 26 _ _ _ _ _ _ _ _ _ _ rfl rfl rfl rfl rfl rfl rfl Try.call62 rfl (nodupB_sound _ rfl) rfl rfl rfl (impl_Colouring_at_ac p0 x5 x3 _ hr7) ?_
                        rintro _ _ ⟨rfl, rfl⟩
                        refine ⟨(fun _ h => nomatch h), (allc (trivial) (fun _ h => nomatch h)), AOps_as 26 (v' := iV r7) (H' := []) rfl rfl ?_⟩
                        refine AOps_q 27 _ rfl rfl rfl (QOp_move _ _ rfl rfl) ?_
                        refine AOps_q 28 _ rfl rfl rfl (QOp_eql _ _ _ _ _ _ _ rfl rfl rfl) ?_
                        refine AOps_q 29 _ rfl rfl rfl (QOp_move _ _ rfl rfl) ?_
                        refine AOps_case 29 _ rfl (fun hb8 => ?_) (fun hb8 => ?_)
                        · have h := iteT hb8 h
                          refine AOps_q 30 _ rfl rfl rfl (QOp_move _ _ rfl rfl) ?_
                          refine AOps_q 31 _ rfl rfl rfl (QOp_move _ _ rfl rfl) ?_
                          refine AOps_q 32 _ rfl rfl rfl (QOp_move _ _ rfl rfl) ?_
                          obtain ⟨r9, hr9, h⟩ := bindO h
                          refine AOps_call [] 33 _ _ _ _ _ _ _ _ _ _ rfl rfl rfl rfl rfl rfl rfl Try.call62 rfl (nodupB_sound _ rfl) rfl rfl rfl (impl_Colouring_at_ac p0 x3 x1 _ hr9) ?_
                          rintro _ _ ⟨rfl, rfl⟩
                          refine ⟨(fun _ h => nomatch h), (allc (trivial) (fun _ h => nomatch h)), AOps_as 33 (v' := iV r9) (H' := []) rfl rfl ?_⟩
                          refine AOps_q 34 _ rfl rfl rfl (QOp_move _ _ rfl rfl) ?_
                          refine AOps_q 35 _ rfl rfl rfl (QOp_eql _ _ _ _ _ _ _ rfl rfl rfl) ?_
                          refine AOps_q 36 _ rfl rfl rfl (QOp_pick_t _ _ _ _ rfl rfl rfl) ?_
                          refine AOps_q 37 _ rfl rfl rfl (QOp_move _ _ rfl rfl) ?_
                          refine AOps_case 37 _ rfl (fun hb10 => ?_) (fun hb10 => ?_)
                          · have h := iteT hb10 h
                            refine AOps_q 38 _ rfl rfl rfl (QOp_move _ _ rfl rfl) ?_
                            refine AOps_q 39 _ rfl rfl rfl (QOp_move _ _ rfl rfl) ?_
                            refine AOps_q 40 _ rfl rfl rfl (QOp_move _ _ rfl rfl) ?_
                            obtain ⟨r11, hr11, h⟩ := bindO h
                            refine AOps_call [] 41 _ _ _ _ _ _ _ _ _ _ rfl rfl rfl rfl rfl rfl rfl Try.call62 rfl (nodupB_sound _ rfl) rfl rfl rfl (impl_Colouring_at_ac p0 x5 x1 _ hr11) ?_
                            rintro _ _ ⟨rfl, rfl⟩
                            refine ⟨(fun _ h => nomatch h), (allc (trivial) (fun _ h => nomatch h)), AOps_as 41 (v' := iV r11) (H' := []) rfl rfl ?_⟩
                            refine AOps_q 42 _ rfl rfl rfl (QOp_move _ _ rfl rfl) ?_
                            refine AOps_q 43 _ rfl rfl rfl (QOp_neq _ _ _ _ _ _ _ rfl rfl rfl) ?_
                            refine AOps_q 44 _ rfl rfl rfl (QOp_pick_t _ _ _ _ rfl rfl rfl) ?_
                            refine AOps_nil ?_
                            cases h
                            exact Weak_keep 0 hm [0, 1, 5, 6, 11, 12, 15, 16, 19, 20, 44] [] _ _ rfl rfl rfl
                          · have h := iteF hb10 h
                            refine AOps_skip 38 rfl rfl rfl ?_
                            refine AOps_skip 39 rfl rfl rfl ?_
                            refine AOps_skip 40 rfl rfl rfl ?_
                            refine AOps_skip 41 rfl rfl rfl ?_
                            refine AOps_skip 42 rfl rfl rfl ?_
                            refine AOps_skip 43 rfl rfl rfl ?_
                            refine AOps_q 44 _ rfl rfl rfl (QOp_pick_f _ _ _ _ rfl rfl rfl) ?_
                            refine AOps_nil ?_
                            cases h
                            exact Weak_keep 0 hm [0, 1, 5, 6, 11, 12, 15, 16, 19, 20, 44] [] _ _ rfl rfl rfl
                        · have h := iteF hb8 h
                          refine AOps_skip 30 rfl rfl rfl ?_
                          refine AOps_skip 31 rfl rfl rfl ?_
                          refine AOps_skip 32 rfl rfl rfl ?_
                          refine AOps_skip 33 rfl rfl rfl ?_
                          refine AOps_skip 34 rfl rfl rfl ?_
                          refine AOps_skip 35 rfl rfl rfl ?_
                          refine AOps_q 36 _ rfl rfl rfl (QOp_pick_f _ _ _ _ rfl rfl rfl) ?_
                          refine AOps_q 37 _ rfl rfl rfl (QOp_move _ _ rfl rfl) ?_
                          refine AOps_skip 38 rfl rfl rfl ?_
                          refine AOps_skip 39 rfl rfl rfl ?_
                          refine AOps_skip 40 rfl rfl rfl ?_
                          refine AOps_skip 41 rfl rfl rfl ?_
                          refine AOps_skip 42 rfl rfl rfl ?_
                          refine AOps_skip 43 rfl rfl rfl ?_
                          refine AOps_q 44 _ rfl rfl rfl (QOp_pick_f _ _ _ _ rfl rfl rfl) ?_
                          refine AOps_nil ?_
                          cases h
                          exact Weak_keep 0 hm [0, 1, 5, 6, 11, 12, 15, 16, 19, 20, 44] [] _ _ rfl rfl rfl
                      intro E' H' hw
                      refine ACode_weak hw ?_
                      have h := hks12
                      refine ACode_cond _ rfl (fun hb13 => ?_) (fun hb13 => ?_)
                      · have h := iteT hb13 h
                        refine ACode_seq (ACode_region ?_)
                        refine AOps_q 4 _ rfl rfl rfl (QOp_assign _ _ rfl rfl) ?_
                        refine AOps_nil ?_
                        refine ACode_ret ?_
                        obtain ⟨rr, hz20, h2⟩ := bindO h
                        obtain rfl := Option.some.inj h2
                        obtain rfl := Option.some.inj (show some rr = some _ from hks14)
                        have h := hz20
                        obtain ⟨rr, hz19, h2⟩ := bindO h
                        obtain rfl := Option.some.inj h2
                        obtain rfl := Option.some.inj (show some rr = some _ from hks15)
                        have h := hz19
                        obtain ⟨rr, hz18, h2⟩ := bindO h
                        obtain rfl := Option.some.inj h2
                        obtain rfl := Option.some.inj (show some rr = some _ from hks16)
                        have h := hz18
                        cases h
                        have h := hks17
                        cases h
                        exact ⟨_, _, fun r a w h => ⟨r, h⟩, _, _, [], _, (.cons (ResV_tmp _ _ rfl) .nil), rfl, rfl, rfl, rfl, rfl⟩
                      · have h := iteF hb13 h
                        refine ACode_skip ?_
                        cases h
                        exact ⟨_, rfl, Weak_keep 0 hm [0, 1, 5, 6, 11, 12, 15, 16, 19, 20] [] _ _ rfl rfl rfl⟩
                    rintro E' H' ⟨s14, rfl, hw⟩
                    refine ACode_weak hw ?_
                    have h := hks14
                    refine (ACode_region ?_)
                    refine AOps_q 45 _ rfl rfl rfl (QOp_add _ _ _ _ _ _ _ rfl rfl rfl) ?_
                    refine AOps_q 20 _ rfl rfl rfl (QOp_move _ _ rfl rfl) ?_
                    refine AOps_nil ?_
                    exact ⟨k2, _, _, Nat.lt_succ_self _, Weak_keep 0 hm [0, 1, 5, 6, 11, 12, 15, 16, 19, 20] [] _ _ rfl rfl rfl, _, rfl, rfl, h⟩
                  · have h := iteF hb6 h
                    refine ACode_exit ?_
                    cases h
                    exact ⟨_, rfl, Weak_keep 0 hm [0, 1, 5, 11, 12, 15, 16] [] _ _ rfl rfl rfl⟩
              rintro E' H' ⟨s15, rfl, hw⟩
              refine ACode_weak hw ?_
              have h := hks15
              refine (ACode_region ?_)
              refine AOps_q 46 _ rfl rfl rfl (QOp_add _ _ _ _ _ _ _ rfl rfl rfl) ?_
              refine AOps_q 16 _ rfl rfl rfl (QOp_move _ _ rfl rfl) ?_
              refine AOps_nil ?_
              exact ⟨k1, _, _, Nat.lt_succ_self _, Weak_keep 0 hm [0, 1, 5, 11, 12, 15, 16] [] _ _ rfl rfl rfl, _, rfl, rfl, h⟩
            · have h := iteF hb4 h
              refine ACode_exit ?_
              cases h
              exact ⟨_, rfl, Weak_keep 0 hm [0, 1, 11, 12] [] _ _ rfl rfl rfl⟩
        rintro E' H' ⟨s16, rfl, hw⟩
        refine ACode_weak hw ?_
        have h := hks16
        refine (ACode_region ?_)
        refine AOps_q 47 _ rfl rfl rfl (QOp_add _ _ _ _ _ _ _ rfl rfl rfl) ?_
        refine AOps_q 12 _ rfl rfl rfl (QOp_move _ _ rfl rfl) ?_
        refine AOps_nil ?_
        exact ⟨k0, _, _, Nat.lt_succ_self _, Weak_keep 0 hm [0, 1, 11, 12] [] _ _ rfl rfl rfl, _, rfl, rfl, h⟩
      · have h := iteF hb2 h
        refine ACode_exit ?_
        cases h
        exact ⟨_, rfl, Weak_keep 0 hm [] [] _ _ rfl rfl rfl⟩
  rintro E' H' ⟨s17, rfl, hw⟩
  refine ACode_weak hw ?_
  have h := hks17
  refine ACode_seq (ACode_region ?_)
  refine AOps_q 4 _ rfl rfl rfl (QOp_assign _ _ rfl rfl) ?_
  refine AOps_nil ?_
  refine ACode_ret ?_
  cases h
  exact ⟨_, _, fun r a w h => ⟨r, h⟩, _, _, [], _, (.cons (ResV_tmp _ _ rfl) .nil), rfl, rfl, rfl, rfl, rfl⟩

-- (*loop.example/g01362/impl.Colouring).that
def impl_Colouring_that_l0 (p0 : Col) (p1 : Int → Option (Bool)) : Nat → Int → (List Int) → Option (List Int)
  | 0, _, _ => none
  | k0 + 1, x1, x2 => (if decide (x1 < p0.p) then ((p1 x1).bind fun r4 => (if r4 then (if x2.length + ([x1]).length ≤ 1099511627776 then some (x2 ++ ([x1])) else none) else some x2) : Option (List Int)).bind fun s7 => impl_Colouring_that_l0 p0 p1 k0 (w64 (x1 + 1)) s7 else some x2)
def impl_Colouring_that (k : Nat) (p0 : Col) (p1 : Int → Option (Bool)) : Option (List Int) :=
  (impl_Colouring_that_l0 p0 p1 k 0 ([] : List Int) : Option (List Int)).bind fun s8 => some s8
set_option maxRecDepth 100000 in
theorem impl_Colouring_that_ac (k : Nat) (p0 : Col) (p1 : Int → Option (Bool)) (g_p1 : FuncId) (c_p1 : List D) (hg_p1 : ∀ args w, (callFunc g_p1 args).run Try.prog w = .ok (.enter g_p1 args) w) (hf_p1 : ∀ (a0 : Int) (r : Bool), p1 a0 = some r → AC Try.prog g_p1 ([iV a0] ++ c_p1.map AV.d) [] (fun res H' => res = [bV r] ∧ H' = [])) (r : List Int) (h : impl_Colouring_that k p0 p1 = some r) : AC Try.prog 72 [.d (.pv (colD p0) 0), .d (.clo g_p1 c_p1)] [] (fun res H' => res = [.vec 0 0] ∧ H' = [.vec 0 (intsD r)]) := by
  refine AC_of_body true Try.func72 rfl Try.ntmps72 (rvs := [.tmp 4]) rfl rfl (fun G hG => ?_)
  have hm : G.H.length = 0 := by rw [hG]; rfl
  unfold impl_Colouring_that at h
  refine ACode_seq (ACode_region ?_)
  refine AOps_q 4 _ rfl rfl rfl (QOp_assign _ _ rfl rfl) ?_
  refine AOps_nil ?_
  refine ACode_seq (ACode_region ?_)
  refine AOps_buildSlice 7 _ _ _ [] (intsD ([] : List Int)) _ rfl rfl rfl rfl rfl (by decide) Try.underlying38 Try.sizeOf2 (zero_of Try.typeInfo2 rfl) rfl rfl (intsD_one _) ?_
  refine AOps_q 5 _ rfl rfl rfl (QOp_assign _ _ rfl rfl) ?_
  refine AOps_nil ?_
  obtain ⟨s8, hss8, hks8⟩ := bindO h
  clear h
  refine ACode_seqJ (fun E' H' => Weak 24 G E' H' [(5, .vec 0 0)] [.vec 0 (intsD s8)]) ?_ ?_
  · have h := hss8
    clear hss8
    refine ACode_seq (ACode_region ?_)
    refine AOps_q 8 _ rfl rfl rfl (QOp_move _ _ rfl rfl) ?_
    refine AOps_q 9 _ rfl rfl rfl (QOp_nilCheck_pv _ _ _ rfl rfl) ?_
    refine AOps_q 10 _ rfl rfl rfl (QOp_fieldAddr_pv _ _ _ _ _ 0 _ _ rfl Try.underlying24 rfl _ Try.sizeOf2 rfl rfl) ?_
    refine AOps_q 11 _ rfl rfl rfl (QOp_load_pv _ _ _ _ _ rfl Try.isAgg2 rfl rfl) ?_
    refine AOps_q 12 _ rfl rfl rfl (QOp_move _ _ rfl rfl) ?_
    refine AOps_nil ?_
    refine ACode_block ?_
    refine ACode_loopW (fun k0 E H => ∃ (x1 : Int) (x2 : List Int), E = [(1, .d (.clo g_p1 c_p1)), (5, .vec 0 0), (11, iV p0.p), (12, iV x1)] ∧ H = [.vec 0 (intsD x2)] ∧ impl_Colouring_that_l0 p0 p1 k0 x1 x2 = some s8) k _ _ (Weak_keep 0 hm [1, 5, 11, 12] [0] _ _ rfl rfl rfl) ⟨_, _, rfl, rfl, h⟩ ?_
    clear h
    rintro k0 E H ⟨x1, x2, rfl, rfl, h⟩
    cases k0 with
    | zero => cases (show (none : Option (List Int)) = some _ from h)
    | succ k0 =>
      rw [impl_Colouring_that_l0] at h
      refine ACode_seq (ACode_region ?_)
      refine AOps_q 13 _ rfl rfl rfl (QOp_lss _ _ _ _ _ _ _ rfl rfl rfl) ?_
      refine AOps_nil ?_
      refine ACode_seq ?_
      refine ACode_cond _ rfl (fun hb3 => ?_) (fun hb3 => ?_)
      · have h := iteT hb3 h
        refine ACode_skip ?_
        obtain ⟨s7, hss7, hks7⟩ := bindO h
        clear h
        refine ACode_seqJ (fun E' H' => Weak 24 G E' H' [(1, .d (.clo g_p1 c_p1)), (5, .vec 0 0), (11, iV p0.p), (12, iV x1)] [.vec 0 (intsD s7)]) ?_ ?_
        · have h := hss7
          clear hss7
          refine ACode_block ?_
          refine ACode_seq (ACode_region ?_)
          refine AOps_q 14 _ rfl rfl rfl (QOp_move _ _ rfl rfl) ?_
          refine AOps_q 6 _ rfl rfl rfl (QOp_assign _ _ rfl rfl) ?_
          refine AOps_nil ?_
          refine ACode_seq (ACode_region ?_)
          refine AOps_q 15 _ rfl rfl rfl (QOp_move _ _ rfl rfl) ?_
          refine AOps_q 16 _ rfl rfl rfl (QOp_move _ _ rfl rfl) ?_
          obtain ⟨r4, hr4, h⟩ := bindO h
          refine AOps_call [] 17 _ _ _ _ _ _ _ _ _ _ rfl rfl rfl rfl rfl rfl rfl hg_p1 rfl (nodupB_sound _ rfl) rfl rfl (viewA_mapD _) (hf_p1 x1 _ hr4) ?_
          rintro _ _ ⟨rfl, rfl⟩
          refine ⟨(fun _ h => nomatch h), (allc (trivial) (fun _ h => nomatch h)), AOps_as 17 (v' := bV r4) (H' := [.vec 0 (intsD x2)]) rfl rfl ?_⟩
          refine AOps_nil ?_
          refine ACode_cond _ rfl (fun hb5 => ?_) (fun hb5 => ?_)
          · have h := iteT hb5 h
            refine (ACode_region ?_)
            refine AOps_q 18 _ rfl rfl rfl (QOp_move _ _ rfl rfl) ?_
            refine AOps_q 19 _ rfl rfl rfl (QOp_move _ _ rfl rfl) ?_
            refine AOps_buildSlice 20 _ _ _ [_] (intsD ([x1])) _ rfl rfl rfl rfl rfl (by decide) Try.underlying38 Try.sizeOf2 (zero_of Try.typeInfo2 rfl) rfl rfl (intsD_one _) ?_
            obtain ⟨hc6, h⟩ := guardO h
            refine AOps_append 21 _ _ _ _ _ _ _ _ _ _ _ _ rfl rfl rfl rfl rfl rfl rfl Try.underlying38 Try.type2 rfl rfl rfl (by decide) rfl rfl rfl rfl (intsD_one _) (by rw [intsD_length, intsD_length]; exact hc6) ?_
            rw [intsD_app]
            refine AOps_q 5 _ rfl rfl rfl (QOp_assign _ _ rfl rfl) ?_
            refine AOps_nil ?_
            cases h
            exact Weak_trans (Weak_keep 0 hm [1, 5, 11, 12] [0] _ _ rfl rfl rfl) (Weak_reset 0 hm [1, 5, 11, 12] _ _ rfl rfl)
          · have h := iteF hb5 h
            refine ACode_skip ?_
            cases h
            exact Weak_keep 0 hm [1, 5, 11, 12] [0] _ _ rfl rfl rfl
        intro E' H' hw
        refine ACode_weak hw ?_
        have h := hks7
        refine (ACode_region ?_)
        refine AOps_q 22 _ rfl rfl rfl (QOp_add _ _ _ _ _ _ _ rfl rfl rfl) ?_
        refine AOps_q 12 _ rfl rfl rfl (QOp_move _ _ rfl rfl) ?_
        refine AOps_nil ?_
        exact ⟨k0, _, _, Nat.lt_succ_self _, Weak_keep 0 hm [1, 5, 11, 12] [0] _ _ rfl rfl rfl, _, _, rfl, rfl, h⟩
      · have h := iteF hb3 h
        refine ACode_exit ?_
        cases h
        exact Weak_keep 0 hm [5] [0] _ _ rfl rfl rfl
  intro E' H' hw
  refine ACode_weak hw ?_
  have h := hks8
  refine ACode_seq (ACode_region ?_)
  refine AOps_q 23 _ rfl rfl rfl (QOp_move _ _ rfl rfl) ?_
  refine AOps_q 4 _ rfl rfl rfl (QOp_assign _ _ rfl rfl) ?_
  refine AOps_nil ?_
  refine ACode_ret ?_
  cases h
  exact ⟨_, _, Weak_reset 0 hm [4] _ _ rfl rfl, _, _, [0], _, (.cons (ResV_tmp _ _ rfl) .nil), rfl, rfl, rfl, rfl, rfl⟩

-- loop.example/g01362/impl.OrderOf$1
def impl_OrderOf_c1 (p0 : Int) (p1 : Int) (p2 : Col) : Option (Bool) :=
  ((if decide (p0 < p1) then (impl_Colouring_at p2 p1 p0).bind fun r2 => (if decide (r2 = 0) then some true else (if decide (p1 < p0) then (impl_Colouring_at p2 p1 p0).bind fun r5 => some (decide (r5 = 1)) else some false)) else (if decide (p1 < p0) then (impl_Colouring_at p2 p1 p0).bind fun r7 => some (decide (r7 = 1)) else some false)) : Option (Bool)).bind fun s8 => some s8
set_option maxRecDepth 100000 in
theorem impl_OrderOf_c1_ac (p0 : Int) (p1 : Int) (p2 : Col) (r : Bool) (h : impl_OrderOf_c1 p0 p1 p2 = some r) : AC Try.prog 73 [iV p0, .d (.pv ([iD p1]) 0), .d (.pv (colD p2) 0)] [] (fun res H' => res = [bV r] ∧ H' = []) := by
  refine AC_of_body true Try.func73 rfl Try.ntmps73 (rvs := [.tmp 4]) rfl rfl (fun G hG => ?_)
  have hm : G.H.length = 0 := by rw [hG]; rfl
  unfold impl_OrderOf_c1 at h
  refine ACode_seq (ACode_region ?_)
  refine AOps_q 4 _ rfl rfl rfl (QOp_assign _ _ rfl rfl) ?_
  refine AOps_nil ?_
  obtain ⟨s8, hss8, hks8⟩ := bindO h
  clear h
  refine ACode_seqJ (fun E' H' => Weak 25 G E' H' [(4, bV s8)] []) ?_ ?_
  · have h := hss8
    clear hss8
    refine (ACode_region ?_)
    refine AOps_q 5 _ rfl rfl rfl (QOp_move _ _ rfl rfl) ?_
    refine AOps_q 6 _ rfl rfl rfl (QOp_load_pv _ _ _ _ _ rfl Try.isAgg2 rfl rfl) ?_
    refine AOps_q 7 _ rfl rfl rfl (QOp_lss _ _ _ _ _ _ _ rfl rfl rfl) ?_
    refine AOps_q 8 _ rfl rfl rfl (QOp_move _ _ rfl rfl) ?_
    refine AOps_case 8 _ rfl (fun hb1 => ?_) (fun hb1 => ?_)
    · have h := iteT hb1 h
      refine AOps_q 9 _ rfl rfl rfl (QOp_load_pv _ _ _ _ _ rfl Try.isAgg2 rfl rfl) ?_
      refine AOps_q 10 _ rfl rfl rfl (QOp_move _ _ rfl rfl) ?_
      obtain ⟨r2, hr2, h⟩ := bindO h
      refine AOps_call [] 11 _ _ _ _ _ _ _ _ _ _ rfl rfl rfl rfl rfl rfl rfl Try.call62 rfl (nodupB_sound _ rfl) rfl rfl rfl (impl_Colouring_at_ac p2 p1 p0 _ hr2) ?_
      rintro _ _ ⟨rfl, rfl⟩
      refine ⟨(fun _ h => nomatch h), (allc (trivial) (fun _ h => nomatch h)), AOps_as 11 (v' := iV r2) (H' := []) rfl rfl ?_⟩
      refine AOps_q 12 _ rfl rfl rfl (QOp_eql _ _ _ _ _ _ _ rfl rfl rfl) ?_
      refine AOps_q 13 _ rfl rfl rfl (QOp_pick_t _ _ _ _ rfl rfl rfl) ?_
      refine AOps_q 14 _ rfl rfl rfl (QOp_move _ _ rfl rfl) ?_
      refine AOps_case 14 _ rfl (fun hb3 => ?_) (fun hb3 => ?_)
      · have h := iteT hb3 h
        refine AOps_skip 15 rfl rfl rfl ?_
        refine AOps_skip 16 rfl rfl rfl ?_
        refine AOps_skip 17 rfl rfl rfl ?_
        refine AOps_skip 18 rfl rfl rfl ?_
        refine AOps_skip 19 rfl rfl rfl ?_
        refine AOps_skip 20 rfl rfl rfl ?_
        refine AOps_skip 21 rfl rfl rfl ?_
        refine AOps_skip 22 rfl rfl rfl ?_
        refine AOps_skip 23 rfl rfl rfl ?_
        refine AOps_q 24 _ rfl rfl rfl (QOp_pick_t _ _ _ _ rfl rfl rfl) ?_
        refine AOps_q 4 _ rfl rfl rfl (QOp_assign _ _ rfl rfl) ?_
        refine AOps_nil ?_
        cases h
        exact Weak_keep 0 hm [4] [] _ _ rfl rfl rfl
      · have h := iteF hb3 h
        refine AOps_q 15 _ rfl rfl rfl (QOp_move _ _ rfl rfl) ?_
        refine AOps_q 16 _ rfl rfl rfl (QOp_load_pv _ _ _ _ _ rfl Try.isAgg2 rfl rfl) ?_
        refine AOps_q 17 _ rfl rfl rfl (QOp_gtr _ _ _ _ _ _ _ rfl rfl rfl) ?_
        refine AOps_q 18 _ rfl rfl rfl (QOp_move _ _ rfl rfl) ?_
        refine AOps_case 18 _ rfl (fun hb4 => ?_) (fun hb4 => ?_)
        · have h := iteT hb4 h
          refine AOps_q 19 _ rfl rfl rfl (QOp_load_pv _ _ _ _ _ rfl Try.isAgg2 rfl rfl) ?_
          refine AOps_q 20 _ rfl rfl rfl (QOp_move _ _ rfl rfl) ?_
          obtain ⟨r5, hr5, h⟩ := bindO h
          refine AOps_call [] 21 _ _ _ _ _ _ _ _ _ _ rfl rfl rfl rfl rfl rfl rfl Try.call62 rfl (nodupB_sound _ rfl) rfl rfl rfl (impl_Colouring_at_ac p2 p1 p0 _ hr5) ?_
          rintro _ _ ⟨rfl, rfl⟩
          refine ⟨(fun _ h => nomatch h), (allc (trivial) (fun _ h => nomatch h)), AOps_as 21 (v' := iV r5) (H' := []) rfl rfl ?_⟩
          refine AOps_q 22 _ rfl rfl rfl (QOp_eql _ _ _ _ _ _ _ rfl rfl rfl) ?_
          refine AOps_q 23 _ rfl rfl rfl (QOp_pick_t _ _ _ _ rfl rfl rfl) ?_
          refine AOps_q 24 _ rfl rfl rfl (QOp_pick_f _ _ _ _ rfl rfl rfl) ?_
          refine AOps_q 4 _ rfl rfl rfl (QOp_assign _ _ rfl rfl) ?_
          refine AOps_nil ?_
          cases h
          exact Weak_keep 0 hm [4] [] _ _ rfl rfl rfl
        · have h := iteF hb4 h
          refine AOps_skip 19 rfl rfl rfl ?_
          refine AOps_skip 20 rfl rfl rfl ?_
          refine AOps_skip 21 rfl rfl rfl ?_
          refine AOps_skip 22 rfl rfl rfl ?_
          refine AOps_q 23 _ rfl rfl rfl (QOp_pick_f _ _ _ _ rfl rfl rfl) ?_
          refine AOps_q 24 _ rfl rfl rfl (QOp_pick_f _ _ _ _ rfl rfl rfl) ?_
          refine AOps_q 4 _ rfl rfl rfl (QOp_assign _ _ rfl rfl) ?_
          refine AOps_nil ?_
          cases h
          exact Weak_keep 0 hm [4] [] _ _ rfl rfl rfl
    · have h := iteF hb1 h
      refine AOps_skip 9 rfl rfl rfl ?_
      refine AOps_skip 10 rfl rfl rfl ?_
      refine AOps_skip 11 rfl rfl rfl ?_
      refine AOps_skip 12 rfl rfl rfl ?_
      refine AOps_q 13 _ rfl rfl rfl (QOp_pick_f _ _ _ _ rfl rfl rfl) ?_
      refine AOps_q 14 _ rfl rfl rfl (QOp_move _ _ rfl rfl) ?_
      refine AOps_q 15 _ rfl rfl rfl (QOp_move _ _ rfl rfl) ?_
      refine AOps_q 16 _ rfl rfl rfl (QOp_load_pv _ _ _ _ _ rfl Try.isAgg2 rfl rfl) ?_
      refine AOps_q 17 _ rfl rfl rfl (QOp_gtr _ _ _ _ _ _ _ rfl rfl rfl) ?_
      refine AOps_q 18 _ rfl rfl rfl (QOp_move _ _ rfl rfl) ?_
      refine AOps_case 18 _ rfl (fun hb6 => ?_) (fun hb6 => ?_)
      · have h := iteT hb6 h
        refine AOps_q 19 _ rfl rfl rfl (QOp_load_pv _ _ _ _ _ rfl Try.isAgg2 rfl rfl) ?_
        refine AOps_q 20 _ rfl rfl rfl (QOp_move _ _ rfl rfl) ?_
        obtain ⟨r7, hr7, h⟩ := bindO h
        refine AOps_call [] 21 _ _ _ _ _ _ _ _ _ _ rfl rfl rfl rfl rfl rfl rfl Try.call62 rfl (nodupB_sound _ rfl) rfl rfl rfl (impl_Colouring_at_ac p2 p1 p0 _ hr7) ?_
        rintro _ _ ⟨rfl, rfl⟩
        refine ⟨(fun _ h => nomatch h), (allc (trivial) (fun _ h => nomatch h)), AOps_as 21 (v' := iV r7) (H' := []) rfl rfl ?_⟩
        refine AOps_q 22 _ rfl rfl rfl (QOp_eql _ _ _ _ _ _ _ rfl rfl rfl) ?_
        refine AOps_q 23 _ rfl rfl rfl (QOp_pick_t _ _ _ _ rfl rfl rfl) ?_
        refine AOps_q 24 _ rfl rfl rfl (QOp_pick_f _ _ _ _ rfl rfl rfl) ?_
        refine AOps_q 4 _ rfl rfl rfl (QOp_assign _ _ rfl rfl) ?_
        refine AOps_nil ?_
        cases h
        exact Weak_keep 0 hm [4] [] _ _ rfl rfl rfl
      · have h := iteF hb6 h
        refine AOps_skip 19 rfl rfl rfl ?_
        refine AOps_skip 20 rfl rfl rfl ?_
        refine AOps_skip 21 rfl rfl rfl ?_
        refine AOps_skip 22 rfl rfl rfl ?_
        refine AOps_q 23 _ rfl rfl rfl (QOp_pick_f _ _ _ _ rfl rfl rfl) ?_
        refine AOps_q 24 _ rfl rfl rfl (QOp_pick_f _ _ _ _ rfl rfl rfl) ?_
        refine AOps_q 4 _ rfl rfl rfl (QOp_assign _ _ rfl rfl) ?_
        refine AOps_nil ?_
        cases h
        exact Weak_keep 0 hm [4] [] _ _ rfl rfl rfl
  intro E' H' hw
  refine ACode_weak hw ?_
  have h := hks8
  refine ACode_ret ?_
  cases h
  exact ⟨_, _, fun r a w h => ⟨r, h⟩, _, _, [], _, (.cons (ResV_tmp _ _ rfl) .nil), rfl, rfl, rfl, rfl, rfl⟩

-- loop.example/g01362/impl.size[int64]
def impl_size (p0 : List Int) : Int :=
  (p0.length : Int)
set_option maxRecDepth 100000 in
theorem impl_size_ac (p0 : List Int) : AC Try.prog 71 [.d (.sl none (intsD p0))] [] (fun res H' => res = [iV (impl_size p0)] ∧ H' = []) := by
  refine AC_of_body true Try.func71 rfl Try.ntmps71 (rvs := [.tmp 2]) rfl rfl (fun G hG => ?_)
  have hm : G.H.length = 0 := by rw [hG]; rfl
  obtain ⟨r, h⟩ : ∃ r, impl_size p0 = r := ⟨_, rfl⟩
  rw [h]
  unfold impl_size at h
  refine ACode_seq (ACode_region ?_)
  refine AOps_q 2 _ rfl rfl rfl (QOp_assign _ _ rfl rfl) ?_
  refine AOps_nil ?_
  refine ACode_seq (ACode_region ?_)
  refine AOps_q 3 _ rfl rfl rfl (QOp_move _ _ rfl rfl) ?_
  refine AOps_q 4 _ rfl rfl rfl (QOp_len_sl _ _ _ _ _ _ _ (intsD_length _) rfl rfl rfl rfl Try.underlying38 rfl) ?_
  refine AOps_q 2 _ rfl rfl rfl (QOp_assign _ _ rfl rfl) ?_
  refine AOps_nil ?_
  refine ACode_ret ?_
  cases h
  exact ⟨_, _, fun r a w h => ⟨r, h⟩, _, _, [], _, (.cons (ResV_tmp _ _ rfl) .nil), rfl, rfl, rfl, rfl, rfl⟩

-- loop.example/g01362/impl.OrderOf
def impl_OrderOf_l0 (k : Nat) (p0 : Col) : Nat → Int → (List Int) → Option (List Int)
  | 0, _, _ => none
  | k0 + 1, x10, x11 => (if decide (x10 < p0.p) then (impl_Colouring_that k p0 (fun a0 => impl_OrderOf_c1 a0 x10 p0)).bind fun r13 => (if x11.length + ([(impl_size r13)]).length ≤ 1099511627776 then impl_OrderOf_l0 k p0 k0 (w64 (x10 + 1)) (x11 ++ ([(impl_size r13)])) else none) else some x11)
def impl_OrderOf (k : Nat) (p0 : Col) : Option (Option (List Int) × Int) :=
  (impl_Colouring_code k p0 (some (impl_always))).bind fun r1 => (if !decide (r1 = 0) then some (none, r1) else (((if !decide (p0.k = 2) then some true else (impl_Colouring_isClosedColour k p0 0).bind fun r4 => (if !r4 then some true else (impl_Colouring_isClosedColour k p0 1).bind fun r6 => some (!r6))) : Option (Bool)).bind fun s7 => (if s7 then some (.inr (none, 5)) else some (.inl ())) : Option (Sum (Unit) (Option (List Int) × Int))).bind fun os9 => (match os9 with | .inl s9 => (impl_OrderOf_l0 k p0 k 0 ([] : List Int) : Option (List Int)).bind fun s16 => some (some s16, 0) | .inr rr => some rr))
set_option maxRecDepth 100000 in
theorem impl_OrderOf_ac (k : Nat) (p0 : Col) (r : Option (List Int) × Int) (h : impl_OrderOf k p0 = some r) : AC Try.prog 33 [.d (.agg (colD p0))] [] (fun res H' => res = [ownA 0 (r.1.map intsD), iV r.2] ∧ H' = [] ++ ownH (r.1.map intsD)) := by
  refine AC_of_body false Try.func33 rfl Try.ntmps33 (rvs := [.tmp 2, .tmp 3]) rfl rfl (fun G hG => ?_)
  have hm : G.H.length = 0 := by rw [hG]; rfl
  unfold impl_OrderOf at h
  refine ACode_seq (ACode_region ?_)
  refine AOps_boxI 1 _ _ (.agg (colD p0)) (colD p0) rfl (colD_one _) rfl rfl rfl rfl rfl ?_
  refine AOps_q 2 _ rfl rfl rfl (QOp_assign _ _ rfl rfl) ?_
  refine AOps_q 3 _ rfl rfl rfl (QOp_assign _ _ rfl rfl) ?_
  refine AOps_nil ?_
  refine ACode_seq ?_
  refine ACode_seq (ACode_region ?_)
  obtain ⟨r1, hr1, h⟩ := bindO h
  refine AOps_call [] 7 _ _ _ _ _ _ _ _ _ _ rfl rfl rfl rfl rfl rfl rfl Try.call59 rfl (nodupB_sound _ rfl) rfl rfl rfl (impl_Colouring_code_ac k p0 (some (impl_always)) 69 ([]) Try.call69 (fun r h => by cases h; exact impl_always_ac) _ hr1) ?_
  rintro _ _ ⟨rfl, rfl⟩
  refine ⟨(fun _ h => nomatch h), (allc (trivial) (fun _ h => nomatch h)), AOps_as 7 (v' := iV r1) (H' := []) rfl rfl ?_⟩
  refine AOps_q 4 _ rfl rfl rfl (QOp_assign _ _ rfl rfl) ?_
  refine AOps_nil ?_
  refine ACode_seq (ACode_region ?_)
  refine AOps_q 8 _ rfl rfl rfl (QOp_move _ _ rfl rfl) ?_
  refine AOps_q 9 _ rfl rfl rfl (QOp_neq _ _ _ _ _ _ _ rfl rfl rfl) ?_
  refine AOps_nil ?_
  refine ACode_cond _ rfl (fun hb2 => ?_) (fun hb2 => ?_)
  · have h := iteT hb2 h
    refine ACode_seq (ACode_region ?_)
    refine AOps_q 10 _ rfl rfl rfl (QOp_move _ _ rfl rfl) ?_
    refine AOps_q 2 _ rfl rfl rfl (QOp_assign _ _ rfl rfl) ?_
    refine AOps_q 3 _ rfl rfl rfl (QOp_assign _ _ rfl rfl) ?_
    refine AOps_nil ?_
    refine ACode_ret ?_
    cases h
    exact ⟨_, _, fun r a w h => ⟨r, h⟩, _, _, [], _, (.cons (ResV_tmp _ _ rfl) (.cons (ResV_tmp _ _ rfl) .nil)), rfl, rfl, rfl, rfl, rfl⟩
  · have h := iteF hb2 h
    refine ACode_skip ?_
    obtain ⟨os9, hss9, hks9⟩ := bindO h
    clear h
    refine ACode_seqJ (fun E' H' => ∃ s9 : Unit, os9 = .inl s9 ∧ Weak 36 G E' H' [(1, .d (.pv (colD p0) 0))] []) ?_ ?_
    · have h := hss9
      clear hss9
      obtain ⟨s7, hss7, hks7⟩ := bindO h
      clear h
      refine ACode_seqJ (fun E' H' => Weak 36 G E' H' [(1, .d (.pv (colD p0) 0)), (21, bV s7)] []) ?_ ?_
      · have h := hss7
        clear hss7
        refine (ACode_region ?_)
        refine AOps_q 11 _ rfl rfl rfl (QOp_fieldAddr_pv _ _ _ _ _ 1 _ _ rfl Try.underlying24 rfl _ Try.sizeOf2 rfl rfl) ?_
        refine AOps_q 12 _ rfl rfl rfl (QOp_load_pv _ _ _ _ _ rfl Try.isAgg2 rfl rfl) ?_
        refine AOps_q 13 _ rfl rfl rfl (QOp_neq _ _ _ _ _ _ _ rfl rfl rfl) ?_
        refine AOps_q 14 _ rfl rfl rfl (QOp_move _ _ rfl rfl) ?_
        refine AOps_case 14 _ rfl (fun hb3 => ?_) (fun hb3 => ?_)
        · have h := iteT hb3 h
          refine AOps_skip 15 rfl rfl rfl ?_
          refine AOps_skip 16 rfl rfl rfl ?_
          refine AOps_q 17 _ rfl rfl rfl (QOp_pick_t _ _ _ _ rfl rfl rfl) ?_
          refine AOps_q 18 _ rfl rfl rfl (QOp_move _ _ rfl rfl) ?_
          refine AOps_skip 19 rfl rfl rfl ?_
          refine AOps_skip 20 rfl rfl rfl ?_
          refine AOps_q 21 _ rfl rfl rfl (QOp_pick_t _ _ _ _ rfl rfl rfl) ?_
          refine AOps_nil ?_
          cases h
          exact Weak_keep 0 hm [1, 21] [] _ _ rfl rfl rfl
        · have h := iteF hb3 h
          obtain ⟨r4, hr4, h⟩ := bindO h
          refine AOps_call [] 15 _ _ _ _ _ _ _ _ _ _ rfl rfl rfl rfl rfl rfl rfl Try.call70 rfl (nodupB_sound _ rfl) rfl rfl rfl (impl_Colouring_isClosedColour_ac k p0 0 _ hr4) ?_
          rintro _ _ ⟨rfl, rfl⟩
          refine ⟨(fun _ h => nomatch h), (allc (trivial) (fun _ h => nomatch h)), AOps_as 15 (v' := bV r4) (H' := []) rfl rfl ?_⟩
          refine AOps_q 16 _ rfl rfl rfl (QOp_not _ _ _ rfl rfl) ?_
          refine AOps_q 17 _ rfl rfl rfl (QOp_pick_f _ _ _ _ rfl rfl rfl) ?_
          refine AOps_q 18 _ rfl rfl rfl (QOp_move _ _ rfl rfl) ?_
          refine AOps_case 18 _ rfl (fun hb5 => ?_) (fun hb5 => ?_)
          · have h := iteT hb5 h
            refine AOps_skip 19 rfl rfl rfl ?_
            refine AOps_skip 20 rfl rfl rfl ?_
            refine AOps_q 21 _ rfl rfl rfl (QOp_pick_t _ _ _ _ rfl rfl rfl) ?_
            refine AOps_nil ?_
            cases h
            exact Weak_keep 0 hm [1, 21] [] _ _ rfl rfl rfl
          · have h := iteF hb5 h
            obtain ⟨r6, hr6, h⟩ := bindO h
            refine AOps_call [] 19 _ _ _ _ _ _ _ _ _ _ rfl rfl rfl rfl rfl rfl rfl Try.call70 rfl (nodupB_sound _ rfl) rfl rfl rfl (impl_Colouring_isClosedColour_ac k p0 1 _ hr6) ?_
            rintro _ _ ⟨rfl, rfl⟩
            refine ⟨(fun _ h => nomatch h), (allc (trivial) (fun _ h => nomatch h)), AOps_as 19 (v' := bV r6) (H' := []) rfl rfl ?_⟩
            refine AOps_q 20 _ rfl rfl rfl (QOp_not _ _ _ rfl rfl) ?_
            refine AOps_q 21 _ rfl rfl rfl (QOp_pick_f _ _ _ _ rfl rfl rfl) ?_
            refine AOps_nil ?_
            cases h
            exact Weak_keep 0 hm [1, 21] [] _ _ rfl rfl rfl
      intro E' H' hw
      refine ACode_weak hw ?_
      have h := hks7
      refine ACode_cond _ rfl (fun hb8 => ?_) (fun hb8 => ?_)
      · have h := iteT hb8 h
        refine ACode_seq (ACode_region ?_)
        refine AOps_q 2 _ rfl rfl rfl (QOp_assign _ _ rfl rfl) ?_
        refine AOps_q 3 _ rfl rfl rfl (QOp_assign _ _ rfl rfl) ?_
        refine AOps_nil ?_
        refine ACode_ret ?_
        cases h
        have h := hks9
        cases h
        exact ⟨_, _, fun r a w h => ⟨r, h⟩, _, _, [], _, (.cons (ResV_tmp _ _ rfl) (.cons (ResV_tmp _ _ rfl) .nil)), rfl, rfl, rfl, rfl, rfl⟩
      · have h := iteF hb8 h
        refine ACode_skip ?_
        cases h
        exact ⟨_, rfl, Weak_keep 0 hm [1] [] _ _ rfl rfl rfl⟩
    rintro E' H' ⟨s9, rfl, hw⟩
    refine ACode_weak hw ?_
    have h := hks9
    refine ACode_seq (ACode_region ?_)
    refine AOps_buildSlice 22 _ _ _ [] (intsD ([] : List Int)) _ rfl rfl rfl rfl rfl (by decide) Try.underlying38 Try.sizeOf2 (zero_of Try.typeInfo2 rfl) rfl rfl (intsD_one _) ?_
    refine AOps_q 5 _ rfl rfl rfl (QOp_assign _ _ rfl rfl) ?_
    refine AOps_nil ?_
    obtain ⟨s16, hss16, hks16⟩ := bindO h
    clear h
    refine ACode_seqJ (fun E' H' => Weak 36 G E' H' [(5, .vec 0 0)] [.vec 0 (intsD s16)]) ?_ ?_
    · have h := hss16
      clear hss16
      refine ACode_seq (ACode_region ?_)
      refine AOps_q 23 _ rfl rfl rfl (QOp_fieldAddr_pv _ _ _ _ _ 0 _ _ rfl Try.underlying24 rfl _ Try.sizeOf2 rfl rfl) ?_
      refine AOps_q 24 _ rfl rfl rfl (QOp_load_pv _ _ _ _ _ rfl Try.isAgg2 rfl rfl) ?_
      refine AOps_q 25 _ rfl rfl rfl (QOp_move _ _ rfl rfl) ?_
      refine AOps_nil ?_
      refine ACode_block ?_
      refine ACode_loopW (fun k0 E H => ∃ (x10 : Int) (x11 : List Int), E = [(1, .d (.pv (colD p0) 0)), (5, .vec 0 0), (24, iV p0.p), (25, iV x10)] ∧ H = [.vec 0 (intsD x11)] ∧ impl_OrderOf_l0 k p0 k0 x10 x11 = some s16) k _ _ (Weak_keep 0 hm [1, 5, 24, 25] [0] _ _ rfl rfl rfl) ⟨_, _, rfl, rfl, h⟩ ?_
      clear h
      rintro k0 E H ⟨x10, x11, rfl, rfl, h⟩
      cases k0 with
      | zero => cases (show (none : Option (List Int)) = some _ from h)
      | succ k0 =>
        rw [impl_OrderOf_l0] at h
        refine ACode_seq (ACode_region ?_)
        refine AOps_q 26 _ rfl rfl rfl (QOp_lss _ _ _ _ _ _ _ rfl rfl rfl) ?_
        refine AOps_nil ?_
        refine ACode_seq ?_
        refine ACode_cond _ rfl (fun hb12 => ?_) (fun hb12 => ?_)
        · have h := iteT hb12 h
          refine ACode_skip ?_
          refine ACode_seq ?_
          refine ACode_block ?_
          refine ACode_seq (ACode_region ?_)
          refine AOps_q 27 _ rfl rfl rfl (QOp_move _ _ rfl rfl) ?_
          refine AOps_alloc 6 _ _ ([iD 0]) (zero_of Try.typeInfo2 rfl) (by rfl) rfl rfl rfl rfl ?_
          refine AOps_store1 _ _ _ _ _ _ _ _ rfl rfl rfl rfl rfl rfl rfl Try.sizeOf2 (by decide) rfl ?_
          refine AOps_nil ?_
          refine (ACode_region ?_)
          refine AOps_q 28 _ rfl rfl rfl (QOp_move _ _ rfl rfl) ?_
          refine AOps_q 29 _ rfl rfl rfl (QOp_makeFunc _ _ _ rfl rfl) ?_
          obtain ⟨r13, hr13, h⟩ := bindO h
          refine AOps_callL [] 30 _ _ _ _ _ _ _ _ _ _ rfl rfl rfl rfl rfl rfl rfl Try.call72 rfl (nodupB_sound _ rfl) rfl rfl rfl (impl_Colouring_that_ac k p0 (fun a0 => impl_OrderOf_c1 a0 x10 p0) 73 ([.pv ([iD x10]) 0, .pv (colD p0) 0]) Try.call73 (fun a0 r h => impl_OrderOf_c1_ac a0 x10 p0 r h) _ hr13) ?_
          rintro _ _ ⟨rfl, rfl⟩
          refine ⟨(allc (intsD_flat _) (fun _ h => nomatch h)), (allc (trivial) (fun _ h => nomatch h)), AOps_as 30 (v' := .vec 2 0) (H' := [.vec 0 (intsD x11), .box [iD x10], .vec 0 (intsD r13)]) rfl rfl ?_⟩
          refine AOps_callL [] 31 _ _ _ _ _ _ _ _ _ _ rfl rfl rfl rfl rfl rfl rfl Try.call71 rfl (nodupB_sound _ rfl) rfl rfl rfl (impl_size_ac r13) ?_
          rintro _ _ ⟨rfl, rfl⟩
          refine ⟨(fun _ h => nomatch h), (allc (flat_s _) (fun _ h => nomatch h)), AOps_as 31 (v' := iV (impl_size r13)) (H' := [.vec 0 (intsD x11), .box [iD x10], .vec 0 (intsD r13)]) rfl rfl ?_⟩
          refine AOps_buildSlice 32 _ _ _ [_] (intsD ([(impl_size r13)])) _ rfl rfl rfl rfl rfl (by decide) Try.underlying38 Try.sizeOf2 (zero_of Try.typeInfo2 rfl) rfl rfl (intsD_one _) ?_
          obtain ⟨hc15, h⟩ := guardO h
          refine AOps_append 33 _ _ _ _ _ _ _ _ _ _ _ _ rfl rfl rfl rfl rfl rfl rfl Try.underlying38 Try.type2 rfl rfl rfl (by decide) rfl rfl rfl rfl (intsD_one _) (by rw [intsD_length, intsD_length]; exact hc15) ?_
          rw [intsD_app]
          refine AOps_q 5 _ rfl rfl rfl (QOp_assign _ _ rfl rfl) ?_
          refine AOps_nil ?_
          refine (ACode_region ?_)
          refine AOps_q 34 _ rfl rfl rfl (QOp_add _ _ _ _ _ _ _ rfl rfl rfl) ?_
          refine AOps_q 25 _ rfl rfl rfl (QOp_move _ _ rfl rfl) ?_
          refine AOps_nil ?_
          exact ⟨k0, _, _, Nat.lt_succ_self _, Weak_trans (Weak_keep 0 hm [1, 5, 24, 25] [0] _ _ rfl rfl rfl) (Weak_reset 0 hm [1, 5, 24, 25] _ _ rfl rfl), _, _, rfl, rfl, h⟩
        · have h := iteF hb12 h
          refine ACode_exit ?_
          cases h
          exact Weak_keep 0 hm [5] [0] _ _ rfl rfl rfl
    intro E' H' hw
    refine ACode_weak hw ?_
    have h := hks16
    refine ACode_seq (ACode_region ?_)
    refine AOps_q 35 _ rfl rfl rfl (QOp_move _ _ rfl rfl) ?_
    refine AOps_q 2 _ rfl rfl rfl (QOp_assign _ _ rfl rfl) ?_
    refine AOps_q 3 _ rfl rfl rfl (QOp_assign _ _ rfl rfl) ?_
    refine AOps_nil ?_
    refine ACode_ret ?_
    cases h
    exact ⟨_, _, Weak_reset 0 hm [2, 3] _ _ rfl rfl, _, _, [0], _, (.cons (ResV_tmp _ _ rfl) (.cons (ResV_tmp _ _ rfl) .nil)), rfl, rfl, rfl, rfl, rfl⟩

-- loop.example/g01362/laws.FnExactOrderOf
def laws_FnExactOrderOf (k : Nat) (p0 : Col) : Option (Bool) :=
  (laws_toColouring k p0).bind fun r1 => (spec_OrderOf k r1).bind fun r2 => (laws_toColouring k p0).bind fun r3 => (impl_OrderOf k r3).bind fun r4 => (match r4.1 with | none => (((laws_eqInt64S k ([]) r2.1).bind fun r7 => (if !r7 then some true else some (!decide (r4.2 = r2.2))) : Option (Bool)).bind fun s9 => (if s9 then some (.inr false) else some (.inl ())) : Option (Sum (Unit) (Bool))).bind fun os11 => (match os11 with | .inl s11 => (laws_markInt64S_d0 k ([]) 1).bind fun r12 => (laws_heldInt64S k ([]) 1).bind fun r13 => (if decide (r13 < 0) then some false else (if !decide (r13 = r12) then some false else (laws_toColouring k p0).bind fun r16 => (impl_OrderOf k r16).bind fun r17 => (match r17.1 with | none => (((laws_eqInt64S k ([]) r2.1).bind fun r20 => (if !r20 then some true else some (!decide (r17.2 = r2.2))) : Option (Bool)).bind fun s22 => (if s22 then some (.inr false) else some (.inl ())) : Option (Sum (Unit) (Bool))).bind fun os24 => (match os24 with | .inl s24 => (laws_heldInt64S k ([]) 1).bind fun r25 => (if decide (r25 < 0) then some false else (if !decide (r25 = r12) then some false else some true)) | .inr rr => some rr) | some l18 => (((laws_eqInt64S k l18 r2.1).bind fun r28 => (if !r28 then some true else some (!decide (r17.2 = r2.2))) : Option (Bool)).bind fun s30 => (if s30 then some (.inr false) else some (.inl ())) : Option (Sum (Unit) (Bool))).bind fun os32 => (match os32 with | .inl s32 => (laws_heldInt64S k ([]) 1).bind fun r33 => (if decide (r33 < 0) then some false else (if !decide (r33 = r12) then some false else some true)) | .inr rr => some rr)))) | .inr rr => some rr) | some l5 => (((laws_eqInt64S k l5 r2.1).bind fun r36 => (if !r36 then some true else some (!decide (r4.2 = r2.2))) : Option (Bool)).bind fun s38 => (if s38 then some (.inr false) else some (.inl ())) : Option (Sum (Unit) (Bool))).bind fun os40 => (match os40 with | .inl s40 => (laws_markInt64S k l5 1).bind fun r41 => (laws_heldInt64S k r41.2 1).bind fun r42 => (if decide (r42 < 0) then some false else (if !decide (r42 = r41.1) then some false else (laws_toColouring k p0).bind fun r45 => (impl_OrderOf k r45).bind fun r46 => (match r46.1 with | none => (((laws_eqInt64S k ([]) r2.1).bind fun r49 => (if !r49 then some true else some (!decide (r46.2 = r2.2))) : Option (Bool)).bind fun s51 => (if s51 then some (.inr false) else some (.inl ())) : Option (Sum (Unit) (Bool))).bind fun os53 => (match os53 with | .inl s53 => (laws_heldInt64S k r41.2 1).bind fun r54 => (if decide (r54 < 0) then some false else (if !decide (r54 = r41.1) then some false else some true)) | .inr rr => some rr) | some l47 => (((laws_eqInt64S k l47 r2.1).bind fun r57 => (if !r57 then some true else some (!decide (r46.2 = r2.2))) : Option (Bool)).bind fun s59 => (if s59 then some (.inr false) else some (.inl ())) : Option (Sum (Unit) (Bool))).bind fun os61 => (match os61 with | .inl s61 => (laws_heldInt64S k r41.2 1).bind fun r62 => (if decide (r62 < 0) then some false else (if !decide (r62 = r41.1) then some false else some true)) | .inr rr => some rr)))) | .inr rr => some rr))
set_option maxRecDepth 100000 in
theorem laws_FnExactOrderOf_ac (k : Nat) (p0 : Col) (r : Bool) (h : laws_FnExactOrderOf k p0 = some r) : AC Try.prog 7 [.d (.agg (colD p0))] [] (fun res H' => res = [bV r] ∧ H' = []) := by
  refine AC_of_body true Try.func7 rfl Try.ntmps7 (rvs := [.tmp 2]) rfl rfl (fun G hG => ?_)
  have hm : G.H.length = 0 := by rw [hG]; rfl
  unfold laws_FnExactOrderOf at h
  refine ACode_seq (ACode_region ?_)
  refine AOps_boxI 1 _ _ (.agg (colD p0)) (colD p0) rfl (colD_one _) rfl rfl rfl rfl rfl ?_
  refine AOps_q 2 _ rfl rfl rfl (QOp_assign _ _ rfl rfl) ?_
  refine AOps_nil ?_
  refine ACode_seq (ACode_region ?_)
  refine AOps_q 12 _ rfl rfl rfl (QOp_loadN_pv _ _ _ _ _ _ rfl Try.isAgg37 Try.sizeOf37 rfl (colD_all _) (colD_length _)) ?_
  obtain ⟨r1, hr1, h⟩ := bindO h
  refine AOps_call [] 13 _ _ _ _ _ _ _ _ _ _ rfl rfl rfl rfl rfl rfl rfl Try.call24 rfl (nodupB_sound _ rfl) rfl rfl rfl (laws_toColouring_ac k p0 _ hr1) ?_
  rintro _ _ ⟨rfl, rfl⟩
  refine ⟨(fun _ h => nomatch h), (allc (trivial) (fun _ h => nomatch h)), AOps_as 13 (v' := .d (.agg (colD r1))) (H' := []) rfl rfl ?_⟩
  obtain ⟨r2, hr2, h⟩ := bindO h
  refine AOps_call [] 14 _ _ _ _ _ _ _ _ _ _ rfl rfl rfl rfl rfl rfl rfl Try.call32 rfl (nodupB_sound _ rfl) rfl rfl rfl (spec_OrderOf_ac k r1 _ hr2) ?_
  rintro _ _ ⟨rfl, rfl⟩
  refine ⟨(fun _ h => nomatch h), (allc (trivial) (allc (trivial) (fun _ h => nomatch h))), AOps_as 14 (v' := .tup [.d (.sl none (intsD r2.1)), iV r2.2]) (H' := []) rfl rfl ?_⟩
  refine AOps_q 11 _ rfl rfl rfl (QOp_move _ _ rfl rfl) ?_
  refine AOps_q 15 _ rfl rfl rfl (QOp_extract _ _ _ _ rfl rfl rfl) ?_
  refine AOps_q 16 _ rfl rfl rfl (QOp_extract _ _ _ _ rfl rfl rfl) ?_
  refine AOps_q 3 _ rfl rfl rfl (QOp_assign _ _ rfl rfl) ?_
  refine AOps_q 4 _ rfl rfl rfl (QOp_assign _ _ rfl rfl) ?_
  refine AOps_nil ?_
  refine ACode_seq (ACode_region ?_)
  refine AOps_q 18 _ rfl rfl rfl (QOp_loadN_pv _ _ _ _ _ _ rfl Try.isAgg37 Try.sizeOf37 rfl (colD_all _) (colD_length _)) ?_
  obtain ⟨r3, hr3, h⟩ := bindO h
  refine AOps_call [] 19 _ _ _ _ _ _ _ _ _ _ rfl rfl rfl rfl rfl rfl rfl Try.call24 rfl (nodupB_sound _ rfl) rfl rfl rfl (laws_toColouring_ac k p0 _ hr3) ?_
  rintro _ _ ⟨rfl, rfl⟩
  refine ⟨(fun _ h => nomatch h), (allc (trivial) (fun _ h => nomatch h)), AOps_as 19 (v' := .d (.agg (colD r3))) (H' := []) rfl rfl ?_⟩
  obtain ⟨r4, hr4, h⟩ := bindO h
  refine AOps_call [] 20 _ _ _ _ _ _ _ _ _ _ rfl rfl rfl rfl rfl rfl rfl Try.call33 rfl (nodupB_sound _ rfl) rfl rfl rfl (impl_OrderOf_ac k r3 _ hr4) ?_
  revert h
  cases hx6 : r4.1 with
  | none =>
    intro h
    rintro _ _ ⟨rfl, rfl⟩
    refine ⟨(fun _ h => nomatch h), (allc (trivial) (allc (trivial) (fun _ h => nomatch h))), AOps_as 20 (v' := .tup [.d (.sl (some true) []), iV r4.2]) (H' := []) rfl rfl ?_⟩
    refine AOps_q 17 _ rfl rfl rfl (QOp_move _ _ rfl rfl) ?_
    refine AOps_q 21 _ rfl rfl rfl (QOp_extract _ _ _ _ rfl rfl rfl) ?_
    refine AOps_q 22 _ rfl rfl rfl (QOp_extract _ _ _ _ rfl rfl rfl) ?_
    refine AOps_q 5 _ rfl rfl rfl (QOp_assign _ _ rfl rfl) ?_
    refine AOps_q 6 _ rfl rfl rfl (QOp_assign _ _ rfl rfl) ?_
    refine AOps_nil ?_
    obtain ⟨os11, hss11, hks11⟩ := bindO h
    clear h
    refine ACode_seqJ (fun E' H' => ∃ s11 : Unit, os11 = .inl s11 ∧ Weak 66 G E' H' [(1, .d (.pv (colD p0) 0)), (3, .d (.sl none (intsD r2.1))), (4, iV r2.2), (5, .d (.sl (some true) []))] []) ?_ ?_
    · have h := hss11
      clear hss11
      obtain ⟨s9, hss9, hks9⟩ := bindO h
      clear h
      refine ACode_seqJ (fun E' H' => Weak 66 G E' H' [(1, .d (.pv (colD p0) 0)), (3, .d (.sl none (intsD r2.1))), (4, iV r2.2), (5, .d (.sl (some true) [])), (31, bV s9)] []) ?_ ?_
      · have h := hss9
        clear hss9
        refine (ACode_region ?_)
        refine AOps_q 23 _ rfl rfl rfl (QOp_move _ _ rfl rfl) ?_
        refine AOps_q 24 _ rfl rfl rfl (QOp_move _ _ rfl rfl) ?_
        obtain ⟨r7, hr7, h⟩ := bindO h
        refine AOps_call [] 25 _ _ _ _ _ _ _ _ _ _ rfl rfl rfl rfl rfl rfl rfl Try.call27 rfl (nodupB_sound _ rfl) rfl rfl rfl (laws_eqInt64S_ac k ([]) r2.1 _ hr7) ?_
        rintro _ _ ⟨rfl, rfl⟩
        refine ⟨(fun _ h => nomatch h), (allc (trivial) (fun _ h => nomatch h)), AOps_as 25 (v' := bV r7) (H' := []) rfl rfl ?_⟩
        refine AOps_q 26 _ rfl rfl rfl (QOp_not _ _ _ rfl rfl) ?_
        refine AOps_q 27 _ rfl rfl rfl (QOp_move _ _ rfl rfl) ?_
        refine AOps_case 27 _ rfl (fun hb8 => ?_) (fun hb8 => ?_)
        · have h := iteT hb8 h
          refine AOps_skip 28 rfl rfl rfl ?_
          refine AOps_skip 29 rfl rfl rfl ?_
          refine AOps_skip 30 rfl rfl rfl ?_
          refine AOps_q 31 _ rfl rfl rfl (QOp_pick_t _ _ _ _ rfl rfl rfl) ?_
          refine AOps_nil ?_
          cases h
          exact Weak_keep 0 hm [1, 3, 4, 5, 31] [] _ _ rfl rfl rfl
        · have h := iteF hb8 h
          refine AOps_q 28 _ rfl rfl rfl (QOp_move _ _ rfl rfl) ?_
          refine AOps_q 29 _ rfl rfl rfl (QOp_move _ _ rfl rfl) ?_
          refine AOps_q 30 _ rfl rfl rfl (QOp_neq _ _ _ _ _ _ _ rfl rfl rfl) ?_
          refine AOps_q 31 _ rfl rfl rfl (QOp_pick_f _ _ _ _ rfl rfl rfl) ?_
          refine AOps_nil ?_
          cases h
          exact Weak_keep 0 hm [1, 3, 4, 5, 31] [] _ _ rfl rfl rfl
      intro E' H' hw
      refine ACode_weak hw ?_
      have h := hks9
      refine ACode_cond _ rfl (fun hb10 => ?_) (fun hb10 => ?_)
      · have h := iteT hb10 h
        refine ACode_seq (ACode_region ?_)
        refine AOps_q 2 _ rfl rfl rfl (QOp_assign _ _ rfl rfl) ?_
        refine AOps_nil ?_
        refine ACode_ret ?_
        cases h
        have h := hks11
        cases h
        exact ⟨_, _, fun r a w h => ⟨r, h⟩, _, _, [], _, (.cons (ResV_tmp _ _ rfl) .nil), rfl, rfl, rfl, rfl, rfl⟩
      · have h := iteF hb10 h
        refine ACode_skip ?_
        cases h
        exact ⟨_, rfl, Weak_keep 0 hm [1, 3, 4, 5] [] _ _ rfl rfl rfl⟩
    rintro E' H' ⟨s11, rfl, hw⟩
    refine ACode_weak hw ?_
    have h := hks11
    refine ACode_seq (ACode_region ?_)
    refine AOps_q 7 _ rfl rfl rfl (QOp_assign _ _ rfl rfl) ?_
    refine AOps_nil ?_
    refine ACode_seq (ACode_region ?_)
    refine AOps_q 32 _ rfl rfl rfl (QOp_move _ _ rfl rfl) ?_
    refine AOps_q 33 _ rfl rfl rfl (QOp_move _ _ rfl rfl) ?_
    obtain ⟨r12, hr12, h⟩ := bindO h
    refine AOps_call [] 34 _ _ _ _ _ _ _ _ _ _ rfl rfl rfl rfl rfl rfl rfl Try.call30 rfl (nodupB_sound _ rfl) rfl rfl rfl (laws_markInt64S_d0_ac k ([]) 1 _ hr12) ?_
    rintro _ _ ⟨rfl, rfl⟩
    refine ⟨(fun _ h => nomatch h), (allc (trivial) (fun _ h => nomatch h)), AOps_as 34 (v' := iV r12) (H' := []) rfl rfl ?_⟩
    refine AOps_q 7 _ rfl rfl rfl (QOp_assign _ _ rfl rfl) ?_
    refine AOps_nil ?_
    refine ACode_seq (ACode_region ?_)
    refine AOps_q 8 _ rfl rfl rfl (QOp_assign _ _ rfl rfl) ?_
    refine AOps_nil ?_
    refine ACode_seq (ACode_region ?_)
    refine AOps_q 35 _ rfl rfl rfl (QOp_move _ _ rfl rfl) ?_
    refine AOps_q 36 _ rfl rfl rfl (QOp_move _ _ rfl rfl) ?_
    obtain ⟨r13, hr13, h⟩ := bindO h
    refine AOps_call [] 37 _ _ _ _ _ _ _ _ _ _ rfl rfl rfl rfl rfl rfl rfl Try.call31 rfl (nodupB_sound _ rfl) rfl rfl rfl (laws_heldInt64S_ac k ([]) 1 _ hr13) ?_
    rintro _ _ ⟨rfl, rfl⟩
    refine ⟨(fun _ h => nomatch h), (allc (trivial) (fun _ h => nomatch h)), AOps_as 37 (v' := iV r13) (H' := []) rfl rfl ?_⟩
    refine AOps_q 8 _ rfl rfl rfl (QOp_assign _ _ rfl rfl) ?_
    refine AOps_nil ?_
    refine ACode_seq ?_
    refine ACode_seq (ACode_region ?_)
    refine AOps_q 38 _ rfl rfl rfl (QOp_move _ _ rfl rfl) ?_
    refine AOps_q 39 _ rfl rfl rfl (QOp_lss _ _ _ _ _ _ _ rfl rfl rfl) ?_
    refine AOps_nil ?_
    refine ACode_cond _ rfl (fun hb14 => ?_) (fun hb14 => ?_)
    · have h := iteT hb14 h
      refine ACode_seq (ACode_region ?_)
      refine AOps_q 2 _ rfl rfl rfl (QOp_assign _ _ rfl rfl) ?_
      refine AOps_nil ?_
      refine ACode_ret ?_
      cases h
      exact ⟨_, _, fun r a w h => ⟨r, h⟩, _, _, [], _, (.cons (ResV_tmp _ _ rfl) .nil), rfl, rfl, rfl, rfl, rfl⟩
    · have h := iteF hb14 h
      refine ACode_skip ?_
      refine ACode_seq ?_
      refine ACode_seq (ACode_region ?_)
      refine AOps_q 40 _ rfl rfl rfl (QOp_move _ _ rfl rfl) ?_
      refine AOps_q 41 _ rfl rfl rfl (QOp_move _ _ rfl rfl) ?_
      refine AOps_q 42 _ rfl rfl rfl (QOp_neq _ _ _ _ _ _ _ rfl rfl rfl) ?_
      refine AOps_nil ?_
      refine ACode_cond _ rfl (fun hb15 => ?_) (fun hb15 => ?_)
      · have h := iteT hb15 h
        refine ACode_seq (ACode_region ?_)
        refine AOps_q 2 _ rfl rfl rfl (QOp_assign _ _ rfl rfl) ?_
        refine AOps_nil ?_
        refine ACode_ret ?_
        cases h
        exact ⟨_, _, fun r a w h => ⟨r, h⟩, _, _, [], _, (.cons (ResV_tmp _ _ rfl) .nil), rfl, rfl, rfl, rfl, rfl⟩
      · have h := iteF hb15 h
        refine ACode_skip ?_
        refine ACode_seq (ACode_region ?_)
        refine AOps_q 44 _ rfl rfl rfl (QOp_loadN_pv _ _ _ _ _ _ rfl Try.isAgg37 Try.sizeOf37 rfl (colD_all _) (colD_length _)) ?_
        obtain ⟨r16, hr16, h⟩ := bindO h
        refine AOps_call [] 45 _ _ _ _ _ _ _ _ _ _ rfl rfl rfl rfl rfl rfl rfl Try.call24 rfl (nodupB_sound _ rfl) rfl rfl rfl (laws_toColouring_ac k p0 _ hr16) ?_
        rintro _ _ ⟨rfl, rfl⟩
        refine ⟨(fun _ h => nomatch h), (allc (trivial) (fun _ h => nomatch h)), AOps_as 45 (v' := .d (.agg (colD r16))) (H' := []) rfl rfl ?_⟩
        obtain ⟨r17, hr17, h⟩ := bindO h
        refine AOps_call [] 46 _ _ _ _ _ _ _ _ _ _ rfl rfl rfl rfl rfl rfl rfl Try.call33 rfl (nodupB_sound _ rfl) rfl rfl rfl (impl_OrderOf_ac k r16 _ hr17) ?_
        revert h
        cases hx19 : r17.1 with
        | none =>
          intro h
          rintro _ _ ⟨rfl, rfl⟩
          refine ⟨(fun _ h => nomatch h), (allc (trivial) (allc (trivial) (fun _ h => nomatch h))), AOps_as 46 (v' := .tup [.d (.sl (some true) []), iV r17.2]) (H' := []) rfl rfl ?_⟩
          refine AOps_q 43 _ rfl rfl rfl (QOp_move _ _ rfl rfl) ?_
          refine AOps_q 47 _ rfl rfl rfl (QOp_extract _ _ _ _ rfl rfl rfl) ?_
          refine AOps_q 48 _ rfl rfl rfl (QOp_extract _ _ _ _ rfl rfl rfl) ?_
          refine AOps_q 9 _ rfl rfl rfl (QOp_assign _ _ rfl rfl) ?_
          refine AOps_q 10 _ rfl rfl rfl (QOp_assign _ _ rfl rfl) ?_
          refine AOps_nil ?_
          obtain ⟨os24, hss24, hks24⟩ := bindO h
          clear h
          refine ACode_seqJ (fun E' H' => ∃ s24 : Unit, os24 = .inl s24 ∧ Weak 66 G E' H' [(5, .d (.sl (some true) [])), (7, iV r12)] []) ?_ ?_
          · have h := hss24
            clear hss24
            obtain ⟨s22, hss22, hks22⟩ := bindO h
            clear h
            refine ACode_seqJ (fun E' H' => Weak 66 G E' H' [(5, .d (.sl (some true) [])), (7, iV r12), (57, bV s22)] []) ?_ ?_
            · have h := hss22
              clear hss22
              refine (ACode_region ?_)
              refine AOps_q 49 _ rfl rfl rfl (QOp_move _ _ rfl rfl) ?_
              refine AOps_q 50 _ rfl rfl rfl (QOp_move _ _ rfl rfl) ?_
              obtain ⟨r20, hr20, h⟩ := bindO h
              refine AOps_call [] 51 _ _ _ _ _ _ _ _ _ _ rfl rfl rfl rfl rfl rfl rfl Try.call27 rfl (nodupB_sound _ rfl) rfl rfl rfl (laws_eqInt64S_ac k ([]) r2.1 _ hr20) ?_
              rintro _ _ ⟨rfl, rfl⟩
              refine ⟨(fun _ h => nomatch h), (allc (trivial) (fun _ h => nomatch h)), AOps_as 51 (v' := bV r20) (H' := []) rfl rfl ?_⟩
              refine AOps_q 52 _ rfl rfl rfl (QOp_not _ _ _ rfl rfl) ?_
              refine AOps_q 53 _ rfl rfl rfl (QOp_move _ _ rfl rfl) ?_
              refine AOps_case 53 _ rfl (fun hb21 => ?_) (fun hb21 => ?_)
              · have h := iteT hb21 h
                refine AOps_skip 54 rfl rfl rfl ?_
                refine AOps_skip 55 rfl rfl rfl ?_
                refine AOps_skip 56 rfl rfl rfl ?_
                refine AOps_q 57 _ rfl rfl rfl (QOp_pick_t _ _ _ _ rfl rfl rfl) ?_
                refine AOps_nil ?_
                cases h
                exact Weak_keep 0 hm [5, 7, 57] [] _ _ rfl rfl rfl
              · have h := iteF hb21 h
                refine AOps_q 54 _ rfl rfl rfl (QOp_move _ _ rfl rfl) ?_
                refine AOps_q 55 _ rfl rfl rfl (QOp_move _ _ rfl rfl) ?_
                refine AOps_q 56 _ rfl rfl rfl (QOp_neq _ _ _ _ _ _ _ rfl rfl rfl) ?_
                refine AOps_q 57 _ rfl rfl rfl (QOp_pick_f _ _ _ _ rfl rfl rfl) ?_
                refine AOps_nil ?_
                cases h
                exact Weak_keep 0 hm [5, 7, 57] [] _ _ rfl rfl rfl
            intro E' H' hw
            refine ACode_weak hw ?_
            have h := hks22
            refine ACode_cond _ rfl (fun hb23 => ?_) (fun hb23 => ?_)
            · have h := iteT hb23 h
              refine ACode_seq (ACode_region ?_)
              refine AOps_q 2 _ rfl rfl rfl (QOp_assign _ _ rfl rfl) ?_
              refine AOps_nil ?_
              refine ACode_ret ?_
              cases h
              have h := hks24
              cases h
              exact ⟨_, _, fun r a w h => ⟨r, h⟩, _, _, [], _, (.cons (ResV_tmp _ _ rfl) .nil), rfl, rfl, rfl, rfl, rfl⟩
            · have h := iteF hb23 h
              refine ACode_skip ?_
              cases h
              exact ⟨_, rfl, Weak_keep 0 hm [5, 7] [] _ _ rfl rfl rfl⟩
          rintro E' H' ⟨s24, rfl, hw⟩
          refine ACode_weak hw ?_
          have h := hks24
          refine ACode_seq (ACode_region ?_)
          refine AOps_q 8 _ rfl rfl rfl (QOp_assign _ _ rfl rfl) ?_
          refine AOps_nil ?_
          refine ACode_seq (ACode_region ?_)
          refine AOps_q 58 _ rfl rfl rfl (QOp_move _ _ rfl rfl) ?_
          refine AOps_q 59 _ rfl rfl rfl (QOp_move _ _ rfl rfl) ?_
          obtain ⟨r25, hr25, h⟩ := bindO h
          refine AOps_call [] 60 _ _ _ _ _ _ _ _ _ _ rfl rfl rfl rfl rfl rfl rfl Try.call31 rfl (nodupB_sound _ rfl) rfl rfl rfl (laws_heldInt64S_ac k ([]) 1 _ hr25) ?_
          rintro _ _ ⟨rfl, rfl⟩
          refine ⟨(fun _ h => nomatch h), (allc (trivial) (fun _ h => nomatch h)), AOps_as 60 (v' := iV r25) (H' := []) rfl rfl ?_⟩
          refine AOps_q 8 _ rfl rfl rfl (QOp_assign _ _ rfl rfl) ?_
          refine AOps_nil ?_
          refine ACode_seq ?_
          refine ACode_seq (ACode_region ?_)
          refine AOps_q 61 _ rfl rfl rfl (QOp_move _ _ rfl rfl) ?_
          refine AOps_q 62 _ rfl rfl rfl (QOp_lss _ _ _ _ _ _ _ rfl rfl rfl) ?_
          refine AOps_nil ?_
          refine ACode_cond _ rfl (fun hb26 => ?_) (fun hb26 => ?_)
          · have h := iteT hb26 h
            refine ACode_seq (ACode_region ?_)
            refine AOps_q 2 _ rfl rfl rfl (QOp_assign _ _ rfl rfl) ?_
            refine AOps_nil ?_
            refine ACode_ret ?_
            cases h
            exact ⟨_, _, fun r a w h => ⟨r, h⟩, _, _, [], _, (.cons (ResV_tmp _ _ rfl) .nil), rfl, rfl, rfl, rfl, rfl⟩
          · have h := iteF hb26 h
            refine ACode_skip ?_
            refine ACode_seq ?_
            refine ACode_seq (ACode_region ?_)
            refine AOps_q 63 _ rfl rfl rfl (QOp_move _ _ rfl rfl) ?_
            refine AOps_q 64 _ rfl rfl rfl (QOp_move _ _ rfl rfl) ?_
            refine AOps_q 65 _ rfl rfl rfl (QOp_neq _ _ _ _ _ _ _ rfl rfl rfl) ?_
            refine AOps_nil ?_
            refine ACode_cond _ rfl (fun hb27 => ?_) (fun hb27 => ?_)
            · have h := iteT hb27 h
              refine ACode_seq (ACode_region ?_)
              refine AOps_q 2 _ rfl rfl rfl (QOp_assign _ _ rfl rfl) ?_
              refine AOps_nil ?_
              refine ACode_ret ?_
              cases h
              exact ⟨_, _, fun r a w h => ⟨r, h⟩, _, _, [], _, (.cons (ResV_tmp _ _ rfl) .nil), rfl, rfl, rfl, rfl, rfl⟩
            · have h := iteF hb27 h
              refine ACode_skip ?_
              refine ACode_seq (ACode_region ?_)
              refine AOps_q 2 _ rfl rfl rfl (QOp_assign _ _ rfl rfl) ?_
              refine AOps_nil ?_
              refine ACode_ret ?_
              cases h
              exact ⟨_, _, fun r a w h => ⟨r, h⟩, _, _, [], _, (.cons (ResV_tmp _ _ rfl) .nil), rfl, rfl, rfl, rfl, rfl⟩
        | some l18 =>
          intro h
          rintro _ _ ⟨rfl, rfl⟩
          refine ⟨(allc (fun _ _ => trivial) (fun _ h => nomatch h)), (allc (trivial) (allc (trivial) (fun _ h => nomatch h))), AOps_as 46 (v' := .tup [.vec 0 0, iV r17.2]) (H' := [.vec 0 (intsD l18)]) rfl rfl ?_⟩
          refine AOps_q 43 _ rfl rfl rfl (QOp_move _ _ rfl rfl) ?_
          refine AOps_q 47 _ rfl rfl rfl (QOp_extract _ _ _ _ rfl rfl rfl) ?_
          refine AOps_q 48 _ rfl rfl rfl (QOp_extract _ _ _ _ rfl rfl rfl) ?_
          refine AOps_q 9 _ rfl rfl rfl (QOp_assign _ _ rfl rfl) ?_
          refine AOps_q 10 _ rfl rfl rfl (QOp_assign _ _ rfl rfl) ?_
          refine AOps_nil ?_
          obtain ⟨os32, hss32, hks32⟩ := bindO h
          clear h
          refine ACode_seqJ (fun E' H' => ∃ s32 : Unit, os32 = .inl s32 ∧ Weak 66 G E' H' [(5, .d (.sl (some true) [])), (7, iV r12)] []) ?_ ?_
          · have h := hss32
            clear hss32
            obtain ⟨s30, hss30, hks30⟩ := bindO h
            clear h
            refine ACode_seqJ (fun E' H' => Weak 66 G E' H' [(5, .d (.sl (some true) [])), (7, iV r12), (57, bV s30)] []) ?_ ?_
            · have h := hss30
              clear hss30
              refine (ACode_region ?_)
              refine AOps_q 49 _ rfl rfl rfl (QOp_move _ _ rfl rfl) ?_
              refine AOps_q 50 _ rfl rfl rfl (QOp_move _ _ rfl rfl) ?_
              obtain ⟨r28, hr28, h⟩ := bindO h
              refine AOps_callL [] 51 _ _ _ _ _ _ _ _ _ _ rfl rfl rfl rfl rfl rfl rfl Try.call27 rfl (nodupB_sound _ rfl) rfl rfl rfl (laws_eqInt64S_ac k l18 r2.1 _ hr28) ?_
              rintro _ _ ⟨rfl, rfl⟩
              refine ⟨(fun _ h => nomatch h), (allc (flat_s _) (fun _ h => nomatch h)), AOps_as 51 (v' := bV r28) (H' := [.vec 0 (intsD l18)]) rfl rfl ?_⟩
              refine AOps_q 52 _ rfl rfl rfl (QOp_not _ _ _ rfl rfl) ?_
              refine AOps_q 53 _ rfl rfl rfl (QOp_move _ _ rfl rfl) ?_
              refine AOps_case 53 _ rfl (fun hb29 => ?_) (fun hb29 => ?_)
              · have h := iteT hb29 h
                refine AOps_skip 54 rfl rfl rfl ?_
                refine AOps_skip 55 rfl rfl rfl ?_
                refine AOps_skip 56 rfl rfl rfl ?_
                refine AOps_q 57 _ rfl rfl rfl (QOp_pick_t _ _ _ _ rfl rfl rfl) ?_
                refine AOps_nil ?_
                cases h
                exact Weak_keep 0 hm [5, 7, 57] [] _ _ rfl rfl rfl
              · have h := iteF hb29 h
                refine AOps_q 54 _ rfl rfl rfl (QOp_move _ _ rfl rfl) ?_
                refine AOps_q 55 _ rfl rfl rfl (QOp_move _ _ rfl rfl) ?_
                refine AOps_q 56 _ rfl rfl rfl (QOp_neq _ _ _ _ _ _ _ rfl rfl rfl) ?_
                refine AOps_q 57 _ rfl rfl rfl (QOp_pick_f _ _ _ _ rfl rfl rfl) ?_
                refine AOps_nil ?_
                cases h
                exact Weak_keep 0 hm [5, 7, 57] [] _ _ rfl rfl rfl
            intro E' H' hw
            refine ACode_weak hw ?_
            have h := hks30
            refine ACode_cond _ rfl (fun hb31 => ?_) (fun hb31 => ?_)
            · have h := iteT hb31 h
              refine ACode_seq (ACode_region ?_)
              refine AOps_q 2 _ rfl rfl rfl (QOp_assign _ _ rfl rfl) ?_
              refine AOps_nil ?_
              refine ACode_ret ?_
              cases h
              have h := hks32
              cases h
              exact ⟨_, _, fun r a w h => ⟨r, h⟩, _, _, [], _, (.cons (ResV_tmp _ _ rfl) .nil), rfl, rfl, rfl, rfl, rfl⟩
            · have h := iteF hb31 h
              refine ACode_skip ?_
              cases h
              exact ⟨_, rfl, Weak_keep 0 hm [5, 7] [] _ _ rfl rfl rfl⟩
          rintro E' H' ⟨s32, rfl, hw⟩
          refine ACode_weak hw ?_
          have h := hks32
          refine ACode_seq (ACode_region ?_)
          refine AOps_q 8 _ rfl rfl rfl (QOp_assign _ _ rfl rfl) ?_
          refine AOps_nil ?_
          refine ACode_seq (ACode_region ?_)
          refine AOps_q 58 _ rfl rfl rfl (QOp_move _ _ rfl rfl) ?_
          refine AOps_q 59 _ rfl rfl rfl (QOp_move _ _ rfl rfl) ?_
          obtain ⟨r33, hr33, h⟩ := bindO h
          refine AOps_call [] 60 _ _ _ _ _ _ _ _ _ _ rfl rfl rfl rfl rfl rfl rfl Try.call31 rfl (nodupB_sound _ rfl) rfl rfl rfl (laws_heldInt64S_ac k ([]) 1 _ hr33) ?_
          rintro _ _ ⟨rfl, rfl⟩
          refine ⟨(fun _ h => nomatch h), (allc (trivial) (fun _ h => nomatch h)), AOps_as 60 (v' := iV r33) (H' := []) rfl rfl ?_⟩
          refine AOps_q 8 _ rfl rfl rfl (QOp_assign _ _ rfl rfl) ?_
          refine AOps_nil ?_
          refine ACode_seq ?_
          refine ACode_seq (ACode_region ?_)
          refine AOps_q 61 _ rfl rfl rfl (QOp_move _ _ rfl rfl) ?_
          refine AOps_q 62 _ rfl rfl rfl (QOp_lss _ _ _ _ _ _ _ rfl rfl rfl) ?_
          refine AOps_nil ?_
          refine ACode_cond _ rfl (fun hb34 => ?_) (fun hb34 => ?_)
          · have h := iteT hb34 h
            refine ACode_seq (ACode_region ?_)
            refine AOps_q 2 _ rfl rfl rfl (QOp_assign _ _ rfl rfl) ?_
            refine AOps_nil ?_
            refine ACode_ret ?_
            cases h
            exact ⟨_, _, fun r a w h => ⟨r, h⟩, _, _, [], _, (.cons (ResV_tmp _ _ rfl) .nil), rfl, rfl, rfl, rfl, rfl⟩
          · have h := iteF hb34 h
            refine ACode_skip ?_
            refine ACode_seq ?_
            refine ACode_seq (ACode_region ?_)
            refine AOps_q 63 _ rfl rfl rfl (QOp_move _ _ rfl rfl) ?_
            refine AOps_q 64 _ rfl rfl rfl (QOp_move _ _ rfl rfl) ?_
            refine AOps_q 65 _ rfl rfl rfl (QOp_neq _ _ _ _ _ _ _ rfl rfl rfl) ?_
            refine AOps_nil ?_
            refine ACode_cond _ rfl (fun hb35 => ?_) (fun hb35 => ?_)
            · have h := iteT hb35 h
              refine ACode_seq (ACode_region ?_)
              refine AOps_q 2 _ rfl rfl rfl (QOp_assign _ _ rfl rfl) ?_
              refine AOps_nil ?_
              refine ACode_ret ?_
              cases h
              exact ⟨_, _, fun r a w h => ⟨r, h⟩, _, _, [], _, (.cons (ResV_tmp _ _ rfl) .nil), rfl, rfl, rfl, rfl, rfl⟩
            · have h := iteF hb35 h
              refine ACode_skip ?_
              refine ACode_seq (ACode_region ?_)
              refine AOps_q 2 _ rfl rfl rfl (QOp_assign _ _ rfl rfl) ?_
              refine AOps_nil ?_
              refine ACode_ret ?_
              cases h
              exact ⟨_, _, fun r a w h => ⟨r, h⟩, _, _, [], _, (.cons (ResV_tmp _ _ rfl) .nil), rfl, rfl, rfl, rfl, rfl⟩
  | some l5 =>
    intro h
    rintro _ _ ⟨rfl, rfl⟩
    refine ⟨(allc (fun _ _ => trivial) (fun _ h => nomatch h)), (allc (trivial) (allc (trivial) (fun _ h => nomatch h))), AOps_as 20 (v' := .tup [.vec 0 0, iV r4.2]) (H' := [.vec 0 (intsD l5)]) rfl rfl ?_⟩
    refine AOps_q 17 _ rfl rfl rfl (QOp_move _ _ rfl rfl) ?_
    refine AOps_q 21 _ rfl rfl rfl (QOp_extract _ _ _ _ rfl rfl rfl) ?_
    refine AOps_q 22 _ rfl rfl rfl (QOp_extract _ _ _ _ rfl rfl rfl) ?_
    refine AOps_q 5 _ rfl rfl rfl (QOp_assign _ _ rfl rfl) ?_
    refine AOps_q 6 _ rfl rfl rfl (QOp_assign _ _ rfl rfl) ?_
    refine AOps_nil ?_
    obtain ⟨os40, hss40, hks40⟩ := bindO h
    clear h
    refine ACode_seqJ (fun E' H' => ∃ s40 : Unit, os40 = .inl s40 ∧ Weak 66 G E' H' [(1, .d (.pv (colD p0) 0)), (3, .d (.sl none (intsD r2.1))), (4, iV r2.2), (5, .vec 0 0)] [.vec 0 (intsD l5)]) ?_ ?_
    · have h := hss40
      clear hss40
      obtain ⟨s38, hss38, hks38⟩ := bindO h
      clear h
      refine ACode_seqJ (fun E' H' => Weak 66 G E' H' [(1, .d (.pv (colD p0) 0)), (3, .d (.sl none (intsD r2.1))), (4, iV r2.2), (5, .vec 0 0), (31, bV s38)] [.vec 0 (intsD l5)]) ?_ ?_
      · have h := hss38
        clear hss38
        refine (ACode_region ?_)
        refine AOps_q 23 _ rfl rfl rfl (QOp_move _ _ rfl rfl) ?_
        refine AOps_q 24 _ rfl rfl rfl (QOp_move _ _ rfl rfl) ?_
        obtain ⟨r36, hr36, h⟩ := bindO h
        refine AOps_callL [] 25 _ _ _ _ _ _ _ _ _ _ rfl rfl rfl rfl rfl rfl rfl Try.call27 rfl (nodupB_sound _ rfl) rfl rfl rfl (laws_eqInt64S_ac k l5 r2.1 _ hr36) ?_
        rintro _ _ ⟨rfl, rfl⟩
        refine ⟨(fun _ h => nomatch h), (allc (flat_s _) (fun _ h => nomatch h)), AOps_as 25 (v' := bV r36) (H' := [.vec 0 (intsD l5)]) rfl rfl ?_⟩
        refine AOps_q 26 _ rfl rfl rfl (QOp_not _ _ _ rfl rfl) ?_
        refine AOps_q 27 _ rfl rfl rfl (QOp_move _ _ rfl rfl) ?_
        refine AOps_case 27 _ rfl (fun hb37 => ?_) (fun hb37 => ?_)
        · have h := iteT hb37 h
          refine AOps_skip 28 rfl rfl rfl ?_
          refine AOps_skip 29 rfl rfl rfl ?_
          refine AOps_skip 30 rfl rfl rfl ?_
          refine AOps_q 31 _ rfl rfl rfl (QOp_pick_t _ _ _ _ rfl rfl rfl) ?_
          refine AOps_nil ?_
          cases h
          exact Weak_keep 0 hm [1, 3, 4, 5, 31] [0] _ _ rfl rfl rfl
        · have h := iteF hb37 h
          refine AOps_q 28 _ rfl rfl rfl (QOp_move _ _ rfl rfl) ?_
          refine AOps_q 29 _ rfl rfl rfl (QOp_move _ _ rfl rfl) ?_
          refine AOps_q 30 _ rfl rfl rfl (QOp_neq _ _ _ _ _ _ _ rfl rfl rfl) ?_
          refine AOps_q 31 _ rfl rfl rfl (QOp_pick_f _ _ _ _ rfl rfl rfl) ?_
          refine AOps_nil ?_
          cases h
          exact Weak_keep 0 hm [1, 3, 4, 5, 31] [0] _ _ rfl rfl rfl
      intro E' H' hw
      refine ACode_weak hw ?_
      have h := hks38
      refine ACode_cond _ rfl (fun hb39 => ?_) (fun hb39 => ?_)
      · have h := iteT hb39 h
        refine ACode_seq (ACode_region ?_)
        refine AOps_q 2 _ rfl rfl rfl (QOp_assign _ _ rfl rfl) ?_
        refine AOps_nil ?_
        refine ACode_ret ?_
        cases h
        have h := hks40
        cases h
        exact ⟨_, _, fun r a w h => ⟨r, h⟩, _, _, [], _, (.cons (ResV_tmp _ _ rfl) .nil), rfl, rfl, rfl, rfl, rfl⟩
      · have h := iteF hb39 h
        refine ACode_skip ?_
        cases h
        exact ⟨_, rfl, Weak_keep 0 hm [1, 3, 4, 5] [0] _ _ rfl rfl rfl⟩
    rintro E' H' ⟨s40, rfl, hw⟩
    refine ACode_weak hw ?_
    have h := hks40
    refine ACode_seq (ACode_region ?_)
    refine AOps_q 7 _ rfl rfl rfl (QOp_assign _ _ rfl rfl) ?_
    refine AOps_nil ?_
    refine ACode_seq (ACode_region ?_)
    refine AOps_q 32 _ rfl rfl rfl (QOp_move _ _ rfl rfl) ?_
    refine AOps_q 33 _ rfl rfl rfl (QOp_move _ _ rfl rfl) ?_
    obtain ⟨r41, hr41, h⟩ := bindO h
    refine AOps_call [0] 34 _ _ _ _ _ _ _ _ _ _ rfl rfl rfl rfl rfl rfl rfl Try.call30 rfl (nodupB_sound _ rfl) rfl rfl rfl (laws_markInt64S_ac k l5 1 _ hr41) ?_
    rintro _ _ ⟨rfl, rfl⟩
    refine ⟨(allc (fun _ _ => trivial) (fun _ h => nomatch h)), (allc (trivial) (fun _ h => nomatch h)), AOps_as 34 (v' := iV r41.1) (H' := [.vec 0 (intsD r41.2)]) rfl rfl ?_⟩
    refine AOps_q 7 _ rfl rfl rfl (QOp_assign _ _ rfl rfl) ?_
    refine AOps_nil ?_
    refine ACode_seq (ACode_region ?_)
    refine AOps_q 8 _ rfl rfl rfl (QOp_assign _ _ rfl rfl) ?_
    refine AOps_nil ?_
    refine ACode_seq (ACode_region ?_)
    refine AOps_q 35 _ rfl rfl rfl (QOp_move _ _ rfl rfl) ?_
    refine AOps_q 36 _ rfl rfl rfl (QOp_move _ _ rfl rfl) ?_
    obtain ⟨r42, hr42, h⟩ := bindO h
    refine AOps_callL [] 37 _ _ _ _ _ _ _ _ _ _ rfl rfl rfl rfl rfl rfl rfl Try.call31 rfl (nodupB_sound _ rfl) rfl rfl rfl (laws_heldInt64S_ac k r41.2 1 _ hr42) ?_
    rintro _ _ ⟨rfl, rfl⟩
    refine ⟨(fun _ h => nomatch h), (allc (flat_s _) (fun _ h => nomatch h)), AOps_as 37 (v' := iV r42) (H' := [.vec 0 (intsD r41.2)]) rfl rfl ?_⟩
    refine AOps_q 8 _ rfl rfl rfl (QOp_assign _ _ rfl rfl) ?_
    refine AOps_nil ?_
    refine ACode_seq ?_
    refine ACode_seq (ACode_region ?_)
    refine AOps_q 38 _ rfl rfl rfl (QOp_move _ _ rfl rfl) ?_
    refine AOps_q 39 _ rfl rfl rfl (QOp_lss _ _ _ _ _ _ _ rfl rfl rfl) ?_
    refine AOps_nil ?_
    refine ACode_cond _ rfl (fun hb43 => ?_) (fun hb43 => ?_)
    · have h := iteT hb43 h
      refine ACode_seq (ACode_region ?_)
      refine AOps_q 2 _ rfl rfl rfl (QOp_assign _ _ rfl rfl) ?_
      refine AOps_nil ?_
      refine ACode_ret ?_
      cases h
      exact ⟨_, _, fun r a w h => ⟨r, h⟩, _, _, [], _, (.cons (ResV_tmp _ _ rfl) .nil), rfl, rfl, rfl, rfl, rfl⟩
    · have h := iteF hb43 h
      refine ACode_skip ?_
      refine ACode_seq ?_
      refine ACode_seq (ACode_region ?_)
      refine AOps_q 40 _ rfl rfl rfl (QOp_move _ _ rfl rfl) ?_
      refine AOps_q 41 _ rfl rfl rfl (QOp_move _ _ rfl rfl) ?_
      refine AOps_q 42 _ rfl rfl rfl (QOp_neq _ _ _ _ _ _ _ rfl rfl rfl) ?_
      refine AOps_nil ?_
      refine ACode_cond _ rfl (fun hb44 => ?_) (fun hb44 => ?_)
      · have h := iteT hb44 h
        refine ACode_seq (ACode_region ?_)
        refine AOps_q 2 _ rfl rfl rfl (QOp_assign _ _ rfl rfl) ?_
        refine AOps_nil ?_
        refine ACode_ret ?_
        cases h
        exact ⟨_, _, fun r a w h => ⟨r, h⟩, _, _, [], _, (.cons (ResV_tmp _ _ rfl) .nil), rfl, rfl, rfl, rfl, rfl⟩
      · have h := iteF hb44 h
        refine ACode_skip ?_
        refine ACode_seq (ACode_region ?_)
        refine AOps_q 44 _ rfl rfl rfl (QOp_loadN_pv _ _ _ _ _ _ rfl Try.isAgg37 Try.sizeOf37 rfl (colD_all _) (colD_length _)) ?_
        obtain ⟨r45, hr45, h⟩ := bindO h
        refine AOps_call [] 45 _ _ _ _ _ _ _ _ _ _ rfl rfl rfl rfl rfl rfl rfl Try.call24 rfl (nodupB_sound _ rfl) rfl rfl rfl (laws_toColouring_ac k p0 _ hr45) ?_
        rintro _ _ ⟨rfl, rfl⟩
        refine ⟨(fun _ h => nomatch h), (allc (trivial) (fun _ h => nomatch h)), AOps_as 45 (v' := .d (.agg (colD r45))) (H' := [.vec 0 (intsD r41.2)]) rfl rfl ?_⟩
        obtain ⟨r46, hr46, h⟩ := bindO h
        refine AOps_call [] 46 _ _ _ _ _ _ _ _ _ _ rfl rfl rfl rfl rfl rfl rfl Try.call33 rfl (nodupB_sound _ rfl) rfl rfl rfl (impl_OrderOf_ac k r45 _ hr46) ?_
        revert h
        cases hx48 : r46.1 with
        | none =>
          intro h
          rintro _ _ ⟨rfl, rfl⟩
          refine ⟨(fun _ h => nomatch h), (allc (trivial) (allc (trivial) (fun _ h => nomatch h))), AOps_as 46 (v' := .tup [.d (.sl (some true) []), iV r46.2]) (H' := [.vec 0 (intsD r41.2)]) rfl rfl ?_⟩
          refine AOps_q 43 _ rfl rfl rfl (QOp_move _ _ rfl rfl) ?_
          refine AOps_q 47 _ rfl rfl rfl (QOp_extract _ _ _ _ rfl rfl rfl) ?_
          refine AOps_q 48 _ rfl rfl rfl (QOp_extract _ _ _ _ rfl rfl rfl) ?_
          refine AOps_q 9 _ rfl rfl rfl (QOp_assign _ _ rfl rfl) ?_
          refine AOps_q 10 _ rfl rfl rfl (QOp_assign _ _ rfl rfl) ?_
          refine AOps_nil ?_
          obtain ⟨os53, hss53, hks53⟩ := bindO h
          clear h
          refine ACode_seqJ (fun E' H' => ∃ s53 : Unit, os53 = .inl s53 ∧ Weak 66 G E' H' [(5, .vec 0 0), (7, iV r41.1)] [.vec 0 (intsD r41.2)]) ?_ ?_
          · have h := hss53
            clear hss53
            obtain ⟨s51, hss51, hks51⟩ := bindO h
            clear h
            refine ACode_seqJ (fun E' H' => Weak 66 G E' H' [(5, .vec 0 0), (7, iV r41.1), (57, bV s51)] [.vec 0 (intsD r41.2)]) ?_ ?_
            · have h := hss51
              clear hss51
              refine (ACode_region ?_)
              refine AOps_q 49 _ rfl rfl rfl (QOp_move _ _ rfl rfl) ?_
              refine AOps_q 50 _ rfl rfl rfl (QOp_move _ _ rfl rfl) ?_
              obtain ⟨r49, hr49, h⟩ := bindO h
              refine AOps_call [] 51 _ _ _ _ _ _ _ _ _ _ rfl rfl rfl rfl rfl rfl rfl Try.call27 rfl (nodupB_sound _ rfl) rfl rfl rfl (laws_eqInt64S_ac k ([]) r2.1 _ hr49) ?_
              rintro _ _ ⟨rfl, rfl⟩
              refine ⟨(fun _ h => nomatch h), (allc (trivial) (fun _ h => nomatch h)), AOps_as 51 (v' := bV r49) (H' := [.vec 0 (intsD r41.2)]) rfl rfl ?_⟩
              refine AOps_q 52 _ rfl rfl rfl (QOp_not _ _ _ rfl rfl) ?_
              refine AOps_q 53 _ rfl rfl rfl (QOp_move _ _ rfl rfl) ?_
              refine AOps_case 53 _ rfl (fun hb50 => ?_) (fun hb50 => ?_)
              · have h := iteT hb50 h
                refine AOps_skip 54 rfl rfl rfl ?_
                refine AOps_skip 55 rfl rfl rfl ?_
                refine AOps_skip 56 rfl rfl rfl ?_
                refine AOps_q 57 _ rfl rfl rfl (QOp_pick_t _ _ _ _ rfl rfl rfl) ?_
                refine AOps_nil ?_
                cases h
                exact Weak_keep 0 hm [5, 7, 57] [0] _ _ rfl rfl rfl
              · have h := iteF hb50 h
                refine AOps_q 54 _ rfl rfl rfl (QOp_move _ _ rfl rfl) ?_
                refine AOps_q 55 _ rfl rfl rfl (QOp_move _ _ rfl rfl) ?_
                refine AOps_q 56 _ rfl rfl rfl (QOp_neq _ _ _ _ _ _ _ rfl rfl rfl) ?_
                refine AOps_q 57 _ rfl rfl rfl (QOp_pick_f _ _ _ _ rfl rfl rfl) ?_
                refine AOps_nil ?_
                cases h
                exact Weak_keep 0 hm [5, 7, 57] [0] _ _ rfl rfl rfl
            intro E' H' hw
            refine ACode_weak hw ?_
            have h := hks51
            refine ACode_cond _ rfl (fun hb52 => ?_) (fun hb52 => ?_)
            · have h := iteT hb52 h
              refine ACode_seq (ACode_region ?_)
              refine AOps_q 2 _ rfl rfl rfl (QOp_assign _ _ rfl rfl) ?_
              refine AOps_nil ?_
              refine ACode_ret ?_
              cases h
              have h := hks53
              cases h
              exact ⟨_, _, fun r a w h => ⟨r, h⟩, _, _, [], _, (.cons (ResV_tmp _ _ rfl) .nil), rfl, rfl, rfl, rfl, rfl⟩
            · have h := iteF hb52 h
              refine ACode_skip ?_
              cases h
              exact ⟨_, rfl, Weak_keep 0 hm [5, 7] [0] _ _ rfl rfl rfl⟩
          rintro E' H' ⟨s53, rfl, hw⟩
          refine ACode_weak hw ?_
          have h := hks53
          refine ACode_seq (ACode_region ?_)
          refine AOps_q 8 _ rfl rfl rfl (QOp_assign _ _ rfl rfl) ?_
          refine AOps_nil ?_
          refine ACode_seq (ACode_region ?_)
          refine AOps_q 58 _ rfl rfl rfl (QOp_move _ _ rfl rfl) ?_
          refine AOps_q 59 _ rfl rfl rfl (QOp_move _ _ rfl rfl) ?_
          obtain ⟨r54, hr54, h⟩ := bindO h
          refine AOps_callL [] 60 _ _ _ _ _ _ _ _ _ _ rfl rfl rfl rfl rfl rfl rfl Try.call31 rfl (nodupB_sound _ rfl) rfl rfl rfl (laws_heldInt64S_ac k r41.2 1 _ hr54) ?_
          rintro _ _ ⟨rfl, rfl⟩
          refine ⟨(fun _ h => nomatch h), (allc (flat_s _) (fun _ h => nomatch h)), AOps_as 60 (v' := iV r54) (H' := [.vec 0 (intsD r41.2)]) rfl rfl ?_⟩
          refine AOps_q 8 _ rfl rfl rfl (QOp_assign _ _ rfl rfl) ?_
          refine AOps_nil ?_
          refine ACode_seq ?_
          refine ACode_seq (ACode_region ?_)
          refine AOps_q 61 _ rfl rfl rfl (QOp_move _ _ rfl rfl) ?_
          refine AOps_q 62 _ rfl rfl rfl (QOp_lss _ _ _ _ _ _ _ rfl rfl rfl) ?_
          refine AOps_nil ?_
          refine ACode_cond _ rfl (fun hb55 => ?_) (fun hb55 => ?_)
          · have h := iteT hb55 h
            refine ACode_seq (ACode_region ?_)
            refine AOps_q 2 _ rfl rfl rfl (QOp_assign _ _ rfl rfl) ?_
            refine AOps_nil ?_
            refine ACode_ret ?_
            cases h
            exact ⟨_, _, fun r a w h => ⟨r, h⟩, _, _, [], _, (.cons (ResV_tmp _ _ rfl) .nil), rfl, rfl, rfl, rfl, rfl⟩
          · have h := iteF hb55 h
            refine ACode_skip ?_
            refine ACode_seq ?_
            refine ACode_seq (ACode_region ?_)
            refine AOps_q 63 _ rfl rfl rfl (QOp_move _ _ rfl rfl) ?_
            refine AOps_q 64 _ rfl rfl rfl (QOp_move _ _ rfl rfl) ?_
            refine AOps_q 65 _ rfl rfl rfl (QOp_neq _ _ _ _ _ _ _ rfl rfl rfl) ?_
            refine AOps_nil ?_
            refine ACode_cond _ rfl (fun hb56 => ?_) (fun hb56 => ?_)
            · have h := iteT hb56 h
              refine ACode_seq (ACode_region ?_)
              refine AOps_q 2 _ rfl rfl rfl (QOp_assign _ _ rfl rfl) ?_
              refine AOps_nil ?_
              refine ACode_ret ?_
              cases h
              exact ⟨_, _, fun r a w h => ⟨r, h⟩, _, _, [], _, (.cons (ResV_tmp _ _ rfl) .nil), rfl, rfl, rfl, rfl, rfl⟩
            · have h := iteF hb56 h
              refine ACode_skip ?_
              refine ACode_seq (ACode_region ?_)
              refine AOps_q 2 _ rfl rfl rfl (QOp_assign _ _ rfl rfl) ?_
              refine AOps_nil ?_
              refine ACode_ret ?_
              cases h
              exact ⟨_, _, fun r a w h => ⟨r, h⟩, _, _, [], _, (.cons (ResV_tmp _ _ rfl) .nil), rfl, rfl, rfl, rfl, rfl⟩
        | some l47 =>
          intro h
          rintro _ _ ⟨rfl, rfl⟩
          refine ⟨(allc (fun _ _ => trivial) (fun _ h => nomatch h)), (allc (trivial) (allc (trivial) (fun _ h => nomatch h))), AOps_as 46 (v' := .tup [.vec 1 0, iV r46.2]) (H' := [.vec 0 (intsD r41.2), .vec 0 (intsD l47)]) rfl rfl ?_⟩
          refine AOps_q 43 _ rfl rfl rfl (QOp_move _ _ rfl rfl) ?_
          refine AOps_q 47 _ rfl rfl rfl (QOp_extract _ _ _ _ rfl rfl rfl) ?_
          refine AOps_q 48 _ rfl rfl rfl (QOp_extract _ _ _ _ rfl rfl rfl) ?_
          refine AOps_q 9 _ rfl rfl rfl (QOp_assign _ _ rfl rfl) ?_
          refine AOps_q 10 _ rfl rfl rfl (QOp_assign _ _ rfl rfl) ?_
          refine AOps_nil ?_
          obtain ⟨os61, hss61, hks61⟩ := bindO h
          clear h
          refine ACode_seqJ (fun E' H' => ∃ s61 : Unit, os61 = .inl s61 ∧ Weak 66 G E' H' [(5, .vec 0 0), (7, iV r41.1)] [.vec 0 (intsD r41.2)]) ?_ ?_
          · have h := hss61
            clear hss61
            obtain ⟨s59, hss59, hks59⟩ := bindO h
            clear h
            refine ACode_seqJ (fun E' H' => Weak 66 G E' H' [(5, .vec 0 0), (7, iV r41.1), (57, bV s59)] [.vec 0 (intsD r41.2)]) ?_ ?_
            · have h := hss59
              clear hss59
              refine (ACode_region ?_)
              refine AOps_q 49 _ rfl rfl rfl (QOp_move _ _ rfl rfl) ?_
              refine AOps_q 50 _ rfl rfl rfl (QOp_move _ _ rfl rfl) ?_
              obtain ⟨r57, hr57, h⟩ := bindO h
              refine AOps_callL [] 51 _ _ _ _ _ _ _ _ _ _ rfl rfl rfl rfl rfl rfl rfl Try.call27 rfl (nodupB_sound _ rfl) rfl rfl rfl (laws_eqInt64S_ac k l47 r2.1 _ hr57) ?_
              rintro _ _ ⟨rfl, rfl⟩
              refine ⟨(fun _ h => nomatch h), (allc (flat_s _) (fun _ h => nomatch h)), AOps_as 51 (v' := bV r57) (H' := [.vec 0 (intsD r41.2), .vec 0 (intsD l47)]) rfl rfl ?_⟩
              refine AOps_q 52 _ rfl rfl rfl (QOp_not _ _ _ rfl rfl) ?_
              refine AOps_q 53 _ rfl rfl rfl (QOp_move _ _ rfl rfl) ?_
              refine AOps_case 53 _ rfl (fun hb58 => ?_) (fun hb58 => ?_)
              · have h := iteT hb58 h
                refine AOps_skip 54 rfl rfl rfl ?_
                refine AOps_skip 55 rfl rfl rfl ?_
                refine AOps_skip 56 rfl rfl rfl ?_
                refine AOps_q 57 _ rfl rfl rfl (QOp_pick_t _ _ _ _ rfl rfl rfl) ?_
                refine AOps_nil ?_
                cases h
                exact Weak_keep 0 hm [5, 7, 57] [0] _ _ rfl rfl rfl
              · have h := iteF hb58 h
                refine AOps_q 54 _ rfl rfl rfl (QOp_move _ _ rfl rfl) ?_
                refine AOps_q 55 _ rfl rfl rfl (QOp_move _ _ rfl rfl) ?_
                refine AOps_q 56 _ rfl rfl rfl (QOp_neq _ _ _ _ _ _ _ rfl rfl rfl) ?_
                refine AOps_q 57 _ rfl rfl rfl (QOp_pick_f _ _ _ _ rfl rfl rfl) ?_
                refine AOps_nil ?_
                cases h
                exact Weak_keep 0 hm [5, 7, 57] [0] _ _ rfl rfl rfl
            intro E' H' hw
            refine ACode_weak hw ?_
            have h := hks59
            refine ACode_cond _ rfl (fun hb60 => ?_) (fun hb60 => ?_)
            · have h := iteT hb60 h
              refine ACode_seq (ACode_region ?_)
              refine AOps_q 2 _ rfl rfl rfl (QOp_assign _ _ rfl rfl) ?_
              refine AOps_nil ?_
              refine ACode_ret ?_
              cases h
              have h := hks61
              cases h
              exact ⟨_, _, fun r a w h => ⟨r, h⟩, _, _, [], _, (.cons (ResV_tmp _ _ rfl) .nil), rfl, rfl, rfl, rfl, rfl⟩
            · have h := iteF hb60 h
              refine ACode_skip ?_
              cases h
              exact ⟨_, rfl, Weak_keep 0 hm [5, 7] [0] _ _ rfl rfl rfl⟩
          rintro E' H' ⟨s61, rfl, hw⟩
          refine ACode_weak hw ?_
          have h := hks61
          refine ACode_seq (ACode_region ?_)
          refine AOps_q 8 _ rfl rfl rfl (QOp_assign _ _ rfl rfl) ?_
          refine AOps_nil ?_
          refine ACode_seq (ACode_region ?_)
          refine AOps_q 58 _ rfl rfl rfl (QOp_move _ _ rfl rfl) ?_
          refine AOps_q 59 _ rfl rfl rfl (QOp_move _ _ rfl rfl) ?_
          obtain ⟨r62, hr62, h⟩ := bindO h
          refine AOps_callL [] 60 _ _ _ _ _ _ _ _ _ _ rfl rfl rfl rfl rfl rfl rfl Try.call31 rfl (nodupB_sound _ rfl) rfl rfl rfl (laws_heldInt64S_ac k r41.2 1 _ hr62) ?_
          rintro _ _ ⟨rfl, rfl⟩
          refine ⟨(fun _ h => nomatch h), (allc (flat_s _) (fun _ h => nomatch h)), AOps_as 60 (v' := iV r62) (H' := [.vec 0 (intsD r41.2)]) rfl rfl ?_⟩
          refine AOps_q 8 _ rfl rfl rfl (QOp_assign _ _ rfl rfl) ?_
          refine AOps_nil ?_
          refine ACode_seq ?_
          refine ACode_seq (ACode_region ?_)
          refine AOps_q 61 _ rfl rfl rfl (QOp_move _ _ rfl rfl) ?_
          refine AOps_q 62 _ rfl rfl rfl (QOp_lss _ _ _ _ _ _ _ rfl rfl rfl) ?_
          refine AOps_nil ?_
          refine ACode_cond _ rfl (fun hb63 => ?_) (fun hb63 => ?_)
          · have h := iteT hb63 h
            refine ACode_seq (ACode_region ?_)
            refine AOps_q 2 _ rfl rfl rfl (QOp_assign _ _ rfl rfl) ?_
            refine AOps_nil ?_
            refine ACode_ret ?_
            cases h
            exact ⟨_, _, fun r a w h => ⟨r, h⟩, _, _, [], _, (.cons (ResV_tmp _ _ rfl) .nil), rfl, rfl, rfl, rfl, rfl⟩
          · have h := iteF hb63 h
            refine ACode_skip ?_
            refine ACode_seq ?_
            refine ACode_seq (ACode_region ?_)
            refine AOps_q 63 _ rfl rfl rfl (QOp_move _ _ rfl rfl) ?_
            refine AOps_q 64 _ rfl rfl rfl (QOp_move _ _ rfl rfl) ?_
            refine AOps_q 65 _ rfl rfl rfl (QOp_neq _ _ _ _ _ _ _ rfl rfl rfl) ?_
            refine AOps_nil ?_
            refine ACode_cond _ rfl (fun hb64 => ?_) (fun hb64 => ?_)
            · have h := iteT hb64 h
              refine ACode_seq (ACode_region ?_)
              refine AOps_q 2 _ rfl rfl rfl (QOp_assign _ _ rfl rfl) ?_
              refine AOps_nil ?_
              refine ACode_ret ?_
              cases h
              exact ⟨_, _, fun r a w h => ⟨r, h⟩, _, _, [], _, (.cons (ResV_tmp _ _ rfl) .nil), rfl, rfl, rfl, rfl, rfl⟩
            · have h := iteF hb64 h
              refine ACode_skip ?_
              refine ACode_seq (ACode_region ?_)
              refine AOps_q 2 _ rfl rfl rfl (QOp_assign _ _ rfl rfl) ?_
              refine AOps_nil ?_
              refine ACode_ret ?_
              cases h
              exact ⟨_, _, fun r a w h => ⟨r, h⟩, _, _, [], _, (.cons (ResV_tmp _ _ rfl) .nil), rfl, rfl, rfl, rfl, rfl⟩

end Go.Proofs.Ytjkanhdklfgghaa
