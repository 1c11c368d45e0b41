/- Plain functions of the program and that the program computes them: printed by the own tool gen.py. No conditions. -/
import Derived.Test.YtmmiokljmfkoiaaDoorAb18
import Derived.Test.YtmmiokljmfkoiaaDoorProg
import Derived.KernelRfl
set_option linter.unusedVariables false
set_option linter.unusedSimpArgs false
namespace Go.Proofs.YtmmiokljmfkoiaaDoor
open Go Go.RowKit Ab

theorem mixed : Tryd.prog.follows .mixedOrders = true := by kernel_rfl

-- loop.example/g01362/laws.toInt64S
def laws_toInt64S_l0 (p0 : List Int) : Nat → Int → (List Int) → Option (List Int)
  | 0, _, _ => none
  | k0 + 1, x2, x3 => (if decide (x2 < (p0.length : Int)) then (if 0 ≤ x2 ∧ x2 < (p0.length : Int) then (if 0 ≤ x2 ∧ x2 < (x3.length : Int) then laws_toInt64S_l0 p0 k0 (w64 (x2 + 1)) (x3.set x2.toNat (p0.getD x2.toNat 0)) else none) else none) else some x3)
def laws_toInt64S (k : Nat) (p0 : List Int) : Option (List Int) :=
  (if 0 ≤ (p0.length : Int) ∧ (p0.length : Int) ≤ (p0.length : Int) ∧ (p0.length : Int) ≤ 1099511627776 then (laws_toInt64S_l0 p0 k 0 (List.replicate (p0.length : Int).toNat (0 : Int)) : Option (List Int)).bind fun s7 => some s7 else none)
set_option maxRecDepth 100000 in
theorem laws_toInt64S_ac (k : Nat) (p0 : List Int) (r : List Int) (h : laws_toInt64S k p0 = some r) : AC Tryd.prog 10 [.d (.sl none (intsD p0))] [] (fun res H' => res = [.vec 0 0] ∧ H' = [.vec 0 (intsD r)]) := by
  refine AC_of_body true Tryd.func10 rfl Tryd.ntmps10 (rvs := [.tmp 2]) rfl rfl (fun G hG => ?_)
  have hm : G.H.length = 0 := by rw [hG]; rfl
  have hz : zeroG G.H = true := by rw [hG]; rfl
  unfold laws_toInt64S at h
  refine ACode_seq (ACode_region ?_)
  refine AOps_q 2 _ rfl rfl rfl (QOp_assign _ _ rfl rfl) ?_
  refine AOps_nil ?_
  refine ACode_seq (ACode_region ?_)
  refine AOps_q 5 _ rfl rfl rfl (QOp_move _ _ rfl rfl) ?_
  refine AOps_q 6 _ rfl rfl rfl (QOp_len_sl _ _ _ _ _ _ _ (intsD_length _) rfl rfl rfl rfl Tryd.underlying30 rfl) ?_
  obtain ⟨hc1, h⟩ := guardO h
  refine AOps_makeSliceG intsD iD 0 (intsD_rep · _) 7 _ _ _ _ _ _ (p0.length : Int) (p0.length : Int) _ (.int .i64 0) rfl rfl rfl rfl rfl rfl Tryd.underlying30 Tryd.type2 rfl rfl (by decide) rfl rfl hc1.1 hc1.2.1 hc1.2.2 ?_
  refine AOps_q 3 _ rfl rfl rfl (QOp_assign _ _ rfl rfl) ?_
  refine AOps_nil ?_
  obtain ⟨s7, hss7, hks7⟩ := bindO h
  clear h
  refine ACode_seqJ (fun E' H' => Weak 22 G E' H' [(3, .vec 0 0)] [.vec 0 (intsD s7)]) ?_ ?_
  · have h := hss7
    clear hss7
    refine ACode_seq (ACode_region ?_)
    refine AOps_q 4 _ rfl rfl rfl (QOp_assign _ _ rfl rfl) ?_
    refine AOps_nil ?_
    refine ACode_block ?_
    refine ACode_loopW (fun k0 E H => ∃ (x2 : Int) (x3 : List Int), E = [(0, .d (.sl none (intsD p0))), (3, .vec 0 0), (4, iV x2)] ∧ H = [.vec 0 (intsD x3)] ∧ laws_toInt64S_l0 p0 k0 x2 x3 = some s7) k _ _ (Weak_keep 0 hm [0, 3, 4] [0] _ _ rfl rfl rfl) ⟨_, _, rfl, rfl, h⟩ ?_
    clear h
    rintro k0 E H ⟨x2, x3, rfl, rfl, h⟩
    cases k0 with
    | zero => cases (show (none : Option (List Int)) = some _ from h)
    | succ k0 =>
      rw [laws_toInt64S_l0] at h
      refine ACode_seq ?_
      refine ACode_seq (ACode_region ?_)
      refine AOps_q 8 _ rfl rfl rfl (QOp_move _ _ rfl rfl) ?_
      refine AOps_q 9 _ rfl rfl rfl (QOp_move _ _ rfl rfl) ?_
      refine AOps_q 10 _ rfl rfl rfl (QOp_len_sl _ _ _ _ _ _ _ (intsD_length _) rfl rfl rfl rfl Tryd.underlying30 rfl) ?_
      refine AOps_q 11 _ rfl rfl rfl (QOp_lss _ _ _ _ _ _ _ rfl rfl rfl) ?_
      refine AOps_nil ?_
      refine ACode_cond _ rfl (fun hb4 => ?_) (fun hb4 => ?_)
      · have h := iteT hb4 h
        refine ACode_skip ?_
        refine ACode_seq ?_
        refine ACode_block ?_
        refine (ACode_region ?_)
        refine AOps_q 14 _ rfl rfl rfl (QOp_move _ _ rfl rfl) ?_
        refine AOps_q 15 _ rfl rfl rfl (QOp_move _ _ rfl rfl) ?_
        refine AOps_q 16 _ rfl rfl rfl (QOp_move _ _ rfl rfl) ?_
        refine AOps_q 17 _ rfl rfl rfl (QOp_move _ _ rfl rfl) ?_
        obtain ⟨hc5, h⟩ := guardO h
        refine AOps_q 18 _ rfl rfl rfl (QOp_indexAddr_sl _ _ _ _ _ _ _ _ rfl Tryd.underlying30 Tryd.sizeOf2 hc5.1 (by rw [intsD_length]; exact hc5.2) rfl rfl) ?_
        refine AOps_q 19 _ rfl rfl rfl (QOp_load_pv _ _ _ _ _ rfl Tryd.isAgg2 rfl (intsD_get _ _ 0 (by omega))) ?_
        obtain ⟨hc6, h⟩ := guardO h
        refine AOps_q 20 _ rfl rfl rfl (QOp_indexAddr_vec _ _ _ _ _ _ _ _ _ rfl Tryd.underlying30 Tryd.sizeOf2 hc6.1 (by rw [intsD_length]; exact hc6.2) rfl rfl rfl) ?_
        refine AOps_store_eptr _ _ _ _ _ _ (intsD x3) _ rfl rfl rfl rfl rfl rfl rfl Tryd.sizeOf2 (by rw [intsD_length]; omega) ?_
        rw [intsD_set]
        refine AOps_nil ?_
        refine (ACode_region ?_)
        refine AOps_q 12 _ rfl rfl rfl (QOp_move _ _ rfl rfl) ?_
        refine AOps_q 13 _ rfl rfl rfl (QOp_add _ _ _ _ _ _ _ rfl rfl rfl) ?_
        refine AOps_q 4 _ rfl rfl rfl (QOp_assign _ _ rfl rfl) ?_
        refine AOps_nil ?_
        exact ⟨k0, _, _, Nat.lt_succ_self _, Weak_keep 0 hm [0, 3, 4] [0] _ _ rfl rfl rfl, _, _, rfl, rfl, h⟩
      · have h := iteF hb4 h
        refine ACode_exit ?_
        cases h
        exact Weak_keep 0 hm [3] [0] _ _ rfl rfl rfl
  intro E' H' hw
  refine ACode_weak hw ?_
  have h := hks7
  refine ACode_seq (ACode_region ?_)
  refine AOps_q 21 _ rfl rfl rfl (QOp_move _ _ rfl rfl) ?_
  refine AOps_q 2 _ rfl rfl rfl (QOp_assign _ _ rfl rfl) ?_
  refine AOps_nil ?_
  refine ACode_ret ?_
  cases h
  exact ⟨_, _, Weak_reset 0 hm hz [2] _ _ rfl rfl, _, _, [0], _, (.cons (ResV_tmp _ _ rfl) .nil), rfl, rfl, rfl, rfl, rfl⟩

-- loop.example/g01362/spec.l01In
def spec_l01In (p0 : Int) (p1 : Int) (p2 : Int) : Bool :=
  letO (if decide (p1 ≤ p0) then decide (p0 ≤ p2) else false) fun (s2 : Bool) => s2
set_option maxRecDepth 100000 in
theorem spec_l01In_ac (p0 : Int) (p1 : Int) (p2 : Int) : AC Tryd.prog 33 [iV p0, iV p1, iV p2] [] (fun res H' => res = [bV (spec_l01In p0 p1 p2)] ∧ H' = []) := by
  refine AC_of_body true Tryd.func33 rfl Tryd.ntmps33 (rvs := [.tmp 6]) rfl rfl (fun G hG => ?_)
  have hm : G.H.length = 0 := by rw [hG]; rfl
  have hz : zeroG G.H = true := by rw [hG]; rfl
  obtain ⟨r, h⟩ : ∃ r, spec_l01In p0 p1 p2 = r := ⟨_, rfl⟩
  rw [h]
  unfold spec_l01In at h
  refine ACode_seq (ACode_region ?_)
  refine AOps_q 6 _ rfl rfl rfl (QOp_assign _ _ rfl rfl) ?_
  refine AOps_nil ?_
  obtain ⟨s2, hss2, hks2⟩ := letS h
  clear h
  refine ACode_seqJ (fun E' H' => Weak 15 G E' H' [(6, bV s2)] []) ?_ ?_
  · have h := hss2
    clear hss2
    refine (ACode_region ?_)
    refine AOps_q 7 _ rfl rfl rfl (QOp_move _ _ rfl rfl) ?_
    refine AOps_q 8 _ rfl rfl rfl (QOp_move _ _ rfl rfl) ?_
    refine AOps_q 9 _ rfl rfl rfl (QOp_geq _ _ _ _ _ _ _ rfl rfl rfl) ?_
    refine AOps_q 10 _ rfl rfl rfl (QOp_move _ _ rfl rfl) ?_
    refine AOps_case 10 _ rfl (fun hb1 => ?_) (fun hb1 => ?_)
    · have h := iteT hb1 h
      refine AOps_q 11 _ rfl rfl rfl (QOp_move _ _ rfl rfl) ?_
      refine AOps_q 12 _ rfl rfl rfl (QOp_move _ _ rfl rfl) ?_
      refine AOps_q 13 _ rfl rfl rfl (QOp_leq _ _ _ _ _ _ _ rfl rfl rfl) ?_
      refine AOps_q 14 _ rfl rfl rfl (QOp_pick_t _ _ _ _ rfl rfl rfl) ?_
      refine AOps_q 6 _ rfl rfl rfl (QOp_assign _ _ rfl rfl) ?_
      refine AOps_nil ?_
      cases h
      exact Weak_keep 0 hm [6] [] _ _ rfl rfl rfl
    · have h := iteF hb1 h
      refine AOps_skip 11 rfl rfl rfl ?_
      refine AOps_skip 12 rfl rfl rfl ?_
      refine AOps_skip 13 rfl rfl rfl ?_
      refine AOps_q 14 _ rfl rfl rfl (QOp_pick_f _ _ _ _ rfl rfl rfl) ?_
      refine AOps_q 6 _ rfl rfl rfl (QOp_assign _ _ rfl rfl) ?_
      refine AOps_nil ?_
      cases h
      exact Weak_keep 0 hm [6] [] _ _ rfl rfl rfl
  intro E' H' hw
  refine ACode_weak hw ?_
  have h := hks2
  refine ACode_ret ?_
  cases h
  exact ⟨_, _, fun r a w h => ⟨r, h⟩, _, _, [], _, (.cons (ResV_tmp _ _ rfl) .nil), rfl, rfl, rfl, rfl, rfl⟩

-- loop.example/g01362/spec.l09Lists
def spec_l09Lists_l0 (p1 : List Int) : Nat → Int → Option (Sum (Unit) (Int))
  | 0, _ => none
  | k0 + 1, x6 => (if decide (x6 < (p1.length : Int)) then (if 0 ≤ x6 ∧ x6 < (p1.length : Int) then (if !(spec_l01In (p1.getD x6.toNat 0) (-1) 1) then some (.inr 2) else spec_l09Lists_l0 p1 k0 (w64 (x6 + 1))) else none) else some (.inl ()))
def spec_l09Lists (k : Nat) (p0 : Int) (p1 : List Int) : Option (Int) :=
  (letO (if !(spec_l01In p0 1 5) then true else !decide ((p1.length : Int) = w64 ((w64 (p0 * (w64 (p0 - 1)))).tdiv 2))) fun (s3 : Bool) => (if s3 then some (.inr 2) else some (.inl ())) : Option (Sum (Unit) (Int))).bind fun os5 => (match os5 with | .inl s5 => (spec_l09Lists_l0 p1 k 0 : Option (Sum (Unit) (Int))).bind fun os11 => (match os11 with | .inl s11 => some 0 | .inr rr => some rr) | .inr rr => some rr)
set_option maxRecDepth 100000 in
theorem spec_l09Lists_ac (k : Nat) (p0 : Int) (p1 : List Int) (r : Int) (h : spec_l09Lists k p0 p1 = some r) : AC Tryd.prog 39 [iV p0, .d (.sl none (intsD p1))] [] (fun res H' => res = [iV r] ∧ H' = []) := by
  refine AC_of_body true Tryd.func39 rfl Tryd.ntmps39 (rvs := [.tmp 4]) rfl rfl (fun G hG => ?_)
  have hm : G.H.length = 0 := by rw [hG]; rfl
  have hz : zeroG G.H = true := by rw [hG]; rfl
  unfold spec_l09Lists at h
  refine ACode_seq (ACode_region ?_)
  refine AOps_q 4 _ rfl rfl rfl (QOp_assign _ _ rfl rfl) ?_
  refine AOps_nil ?_
  obtain ⟨os5, hss5, hks5⟩ := bindO h
  clear h
  refine ACode_seqJ (fun E' H' => ∃ s5 : Unit, os5 = .inl s5 ∧ Weak 31 G E' H' [(1, .d (.sl none (intsD p1)))] []) ?_ ?_
  · have h := hss5
    clear hss5
    obtain ⟨s3, hss3, hks3⟩ := letS h
    clear h
    refine ACode_seqJ (fun E' H' => Weak 31 G E' H' [(1, .d (.sl none (intsD p1))), (18, bV s3)] []) ?_ ?_
    · have h := hss3
      clear hss3
      refine (ACode_region ?_)
      refine AOps_q 6 _ rfl rfl rfl (QOp_move _ _ rfl rfl) ?_
      refine AOps_call [] 7 _ _ _ _ _ _ _ _ _ _ rfl rfl rfl rfl rfl rfl rfl Tryd.call33 rfl (nodupB_sound _ rfl) rfl rfl rfl (spec_l01In_ac p0 1 5) ?_
      rintro _ _ ⟨rfl, rfl⟩
      refine ⟨(fun _ h => nomatch h), (allc (trivial) (fun _ h => nomatch h)), AOps_as 7 (v' := bV (spec_l01In p0 1 5)) (H' := []) rfl rfl ?_⟩
      refine AOps_q 8 _ rfl rfl rfl (QOp_not _ _ _ rfl rfl) ?_
      refine AOps_q 9 _ rfl rfl rfl (QOp_move _ _ rfl rfl) ?_
      refine AOps_case 9 _ rfl (fun hb2 => ?_) (fun hb2 => ?_)
      · have h := iteT hb2 h
        refine AOps_skip 10 rfl rfl rfl ?_
        refine AOps_skip 11 rfl rfl rfl ?_
        refine AOps_skip 12 rfl rfl rfl ?_
        refine AOps_skip 13 rfl rfl rfl ?_
        refine AOps_skip 14 rfl rfl rfl ?_
        refine AOps_skip 15 rfl rfl rfl ?_
        refine AOps_skip 16 rfl rfl rfl ?_
        refine AOps_skip 17 rfl rfl rfl ?_
        refine AOps_q 18 _ rfl rfl rfl (QOp_pick_t _ _ _ _ rfl rfl rfl) ?_
        refine AOps_nil ?_
        cases h
        exact Weak_keep 0 hm [1, 18] [] _ _ rfl rfl rfl
      · have h := iteF hb2 h
        refine AOps_q 10 _ rfl rfl rfl (QOp_move _ _ rfl rfl) ?_
        refine AOps_q 11 _ rfl rfl rfl (QOp_len_sl _ _ _ _ _ _ _ (intsD_length _) rfl rfl rfl rfl Tryd.underlying30 rfl) ?_
        refine AOps_q 12 _ rfl rfl rfl (QOp_move _ _ rfl rfl) ?_
        refine AOps_q 13 _ rfl rfl rfl (QOp_move _ _ rfl rfl) ?_
        refine AOps_q 14 _ rfl rfl rfl (QOp_sub _ _ _ _ _ _ _ rfl rfl rfl) ?_
        refine AOps_q 15 _ rfl rfl rfl (QOp_mul _ _ _ _ _ _ _ rfl rfl rfl) ?_
        refine AOps_q 16 _ rfl rfl rfl (QOp_quo _ _ _ _ _ _ _ (by decide) rfl rfl rfl) ?_
        refine AOps_q 17 _ rfl rfl rfl (QOp_neq _ _ _ _ _ _ _ rfl rfl rfl) ?_
        refine AOps_q 18 _ rfl rfl rfl (QOp_pick_f _ _ _ _ rfl rfl rfl) ?_
        refine AOps_nil ?_
        cases h
        exact Weak_keep 0 hm [1, 18] [] _ _ rfl rfl rfl
    intro E' H' hw
    refine ACode_weak hw ?_
    have h := hks3
    refine ACode_cond _ rfl (fun hb4 => ?_) (fun hb4 => ?_)
    · have h := iteT hb4 h
      refine ACode_seq (ACode_region ?_)
      refine AOps_q 4 _ rfl rfl rfl (QOp_assign _ _ rfl rfl) ?_
      refine AOps_nil ?_
      refine ACode_ret ?_
      cases h
      have h := hks5
      cases h
      exact ⟨_, _, fun r a w h => ⟨r, h⟩, _, _, [], _, (.cons (ResV_tmp _ _ rfl) .nil), rfl, rfl, rfl, rfl, rfl⟩
    · have h := iteF hb4 h
      refine ACode_skip ?_
      cases h
      exact ⟨_, rfl, Weak_keep 0 hm [1] [] _ _ rfl rfl rfl⟩
  rintro E' H' ⟨s5, rfl, hw⟩
  refine ACode_weak hw ?_
  have h := hks5
  obtain ⟨os11, hss11, hks11⟩ := bindO h
  clear h
  refine ACode_seqJ (fun E' H' => ∃ s11 : Unit, os11 = .inl s11 ∧ Weak 31 G E' H' [] []) ?_ ?_
  · have h := hss11
    clear hss11
    refine ACode_seq (ACode_region ?_)
    refine AOps_q 5 _ rfl rfl rfl (QOp_assign _ _ rfl rfl) ?_
    refine AOps_nil ?_
    refine ACode_block ?_
    refine ACode_loopW (fun k0 E H => ∃ (x6 : Int), E = [(1, .d (.sl none (intsD p1))), (5, iV x6)] ∧ H = [] ∧ spec_l09Lists_l0 p1 k0 x6 = some os11) k _ _ (Weak_keep 0 hm [1, 5] [] _ _ rfl rfl rfl) ⟨_, rfl, rfl, h⟩ ?_
    clear h
    rintro k0 E H ⟨x6, rfl, rfl, h⟩
    cases k0 with
    | zero => cases (show (none : Option (Sum (Unit) (Int))) = some _ from h)
    | succ k0 =>
      rw [spec_l09Lists_l0] at h
      refine ACode_seq ?_
      refine ACode_seq (ACode_region ?_)
      refine AOps_q 19 _ rfl rfl rfl (QOp_move _ _ rfl rfl) ?_
      refine AOps_q 20 _ rfl rfl rfl (QOp_move _ _ rfl rfl) ?_
      refine AOps_q 21 _ rfl rfl rfl (QOp_len_sl _ _ _ _ _ _ _ (intsD_length _) rfl rfl rfl rfl Tryd.underlying30 rfl) ?_
      refine AOps_q 22 _ rfl rfl rfl (QOp_lss _ _ _ _ _ _ _ rfl rfl rfl) ?_
      refine AOps_nil ?_
      refine ACode_cond _ rfl (fun hb7 => ?_) (fun hb7 => ?_)
      · have h := iteT hb7 h
        refine ACode_skip ?_
        refine ACode_seq ?_
        refine ACode_block ?_
        refine ACode_seq (ACode_region ?_)
        refine AOps_q 25 _ rfl rfl rfl (QOp_move _ _ rfl rfl) ?_
        refine AOps_q 26 _ rfl rfl rfl (QOp_move _ _ rfl rfl) ?_
        obtain ⟨hc8, h⟩ := guardO h
        refine AOps_q 27 _ rfl rfl rfl (QOp_indexAddr_sl _ _ _ _ _ _ _ _ rfl Tryd.underlying30 Tryd.sizeOf2 hc8.1 (by rw [intsD_length]; exact hc8.2) rfl rfl) ?_
        refine AOps_q 28 _ rfl rfl rfl (QOp_load_pv _ _ _ _ _ rfl Tryd.isAgg2 rfl (intsD_get _ _ 0 (by omega))) ?_
        refine AOps_call [] 29 _ _ _ _ _ _ _ _ _ _ rfl rfl rfl rfl rfl rfl rfl Tryd.call33 rfl (nodupB_sound _ rfl) rfl rfl rfl (spec_l01In_ac (p1.getD x6.toNat 0) (-1) 1) ?_
        rintro _ _ ⟨rfl, rfl⟩
        refine ⟨(fun _ h => nomatch h), (allc (trivial) (fun _ h => nomatch h)), AOps_as 29 (v' := bV (spec_l01In (p1.getD x6.toNat 0) (-1) 1)) (H' := []) rfl rfl ?_⟩
        refine AOps_q 30 _ rfl rfl rfl (QOp_not _ _ _ rfl rfl) ?_
        refine AOps_nil ?_
        refine ACode_cond _ rfl (fun hb10 => ?_) (fun hb10 => ?_)
        · have h := iteT hb10 h
          refine ACode_seq (ACode_region ?_)
          refine AOps_q 4 _ rfl rfl rfl (QOp_assign _ _ rfl rfl) ?_
          refine AOps_nil ?_
          refine ACode_ret ?_
          cases h
          have h := hks11
          cases h
          exact ⟨_, _, fun r a w h => ⟨r, h⟩, _, _, [], _, (.cons (ResV_tmp _ _ rfl) .nil), rfl, rfl, rfl, rfl, rfl⟩
        · have h := iteF hb10 h
          refine ACode_skip ?_
          refine (ACode_region ?_)
          refine AOps_q 23 _ rfl rfl rfl (QOp_move _ _ rfl rfl) ?_
          refine AOps_q 24 _ rfl rfl rfl (QOp_add _ _ _ _ _ _ _ rfl rfl rfl) ?_
          refine AOps_q 5 _ rfl rfl rfl (QOp_assign _ _ rfl rfl) ?_
          refine AOps_nil ?_
          exact ⟨k0, _, _, Nat.lt_succ_self _, Weak_keep 0 hm [1, 5] [] _ _ rfl rfl rfl, _, rfl, rfl, h⟩
      · have h := iteF hb7 h
        refine ACode_exit ?_
        cases h
        exact ⟨_, rfl, Weak_keep 0 hm [] [] _ _ rfl rfl rfl⟩
  rintro E' H' ⟨s11, rfl, hw⟩
  refine ACode_weak hw ?_
  have h := hks11
  refine ACode_seq (ACode_region ?_)
  refine AOps_q 4 _ rfl rfl rfl (QOp_assign _ _ rfl rfl) ?_
  refine AOps_nil ?_
  refine ACode_ret ?_
  cases h
  exact ⟨_, _, fun r a w h => ⟨r, h⟩, _, _, [], _, (.cons (ResV_tmp _ _ rfl) .nil), rfl, rfl, rfl, rfl, rfl⟩

-- loop.example/g01362/spec.l09Counts
def spec_l09Counts_l0 (p0 : List Int) : Nat → Int → Int → Int → Option (Int × Int)
  | 0, _, _, _ => none
  | k0 + 1, x1, x2, x3 => (if decide (x3 < (p0.length : Int)) then (((if 0 ≤ x3 ∧ x3 < (p0.length : Int) then (if decide ((p0.getD x3.toNat 0) = 0) then some (w64 (x1 + 1)) else some x1) else none) : Option (Int)).bind fun s7 => (if 0 ≤ x3 ∧ x3 < (p0.length : Int) then (if decide ((p0.getD x3.toNat 0) = 1) then some (s7, w64 (x2 + 1)) else some (s7, x2)) else none) : Option (Int × Int)).bind fun s10 => spec_l09Counts_l0 p0 k0 s10.1 s10.2 (w64 (x3 + 1)) else some (x1, x2))
def spec_l09Counts (k : Nat) (p0 : List Int) : Option (Int × Int) :=
  (spec_l09Counts_l0 p0 k 0 0 0 : Option (Int × Int)).bind fun s11 => some (s11.1, s11.2)
set_option maxRecDepth 100000 in
theorem spec_l09Counts_ac (k : Nat) (p0 : List Int) (r : Int × Int) (h : spec_l09Counts k p0 = some r) : AC Tryd.prog 72 [.d (.sl none (intsD p0))] [] (fun res H' => res = [iV r.1, iV r.2] ∧ H' = []) := by
  refine AC_of_body true Tryd.func72 rfl Tryd.ntmps72 (rvs := [.tmp 2, .tmp 3]) rfl rfl (fun G hG => ?_)
  have hm : G.H.length = 0 := by rw [hG]; rfl
  have hz : zeroG G.H = true := by rw [hG]; rfl
  unfold spec_l09Counts at h
  refine ACode_seq (ACode_region ?_)
  refine AOps_q 2 _ rfl rfl rfl (QOp_assign _ _ rfl rfl) ?_
  refine AOps_q 3 _ rfl rfl rfl (QOp_assign _ _ rfl rfl) ?_
  refine AOps_nil ?_
  refine ACode_seq (ACode_region ?_)
  refine AOps_q 4 _ rfl rfl rfl (QOp_assign _ _ rfl rfl) ?_
  refine AOps_q 5 _ rfl rfl rfl (QOp_assign _ _ rfl rfl) ?_
  refine AOps_nil ?_
  obtain ⟨s11, hss11, hks11⟩ := bindO h
  clear h
  refine ACode_seqJ (fun E' H' => Weak 29 G E' H' [(4, iV s11.1), (5, iV s11.2)] []) ?_ ?_
  · have h := hss11
    clear hss11
    refine ACode_seq (ACode_region ?_)
    refine AOps_q 6 _ rfl rfl rfl (QOp_assign _ _ rfl rfl) ?_
    refine AOps_nil ?_
    refine ACode_block ?_
    refine ACode_loopW (fun k0 E H => ∃ (x1 : Int) (x2 : Int) (x3 : Int), E = [(0, .d (.sl none (intsD p0))), (4, iV x1), (5, iV x2), (6, iV x3)] ∧ H = [] ∧ spec_l09Counts_l0 p0 k0 x1 x2 x3 = some s11) k _ _ (Weak_keep 0 hm [0, 4, 5, 6] [] _ _ rfl rfl rfl) ⟨_, _, _, rfl, rfl, h⟩ ?_
    clear h
    rintro k0 E H ⟨x1, x2, x3, rfl, rfl, h⟩
    cases k0 with
    | zero => cases (show (none : Option (Int × Int)) = some _ from h)
    | succ k0 =>
      rw [spec_l09Counts_l0] at h
      refine ACode_seq ?_
      refine ACode_seq (ACode_region ?_)
      refine AOps_q 7 _ rfl rfl rfl (QOp_move _ _ rfl rfl) ?_
      refine AOps_q 8 _ rfl rfl rfl (QOp_move _ _ rfl rfl) ?_
      refine AOps_q 9 _ rfl rfl rfl (QOp_len_sl _ _ _ _ _ _ _ (intsD_length _) rfl rfl rfl rfl Tryd.underlying30 rfl) ?_
      refine AOps_q 10 _ rfl rfl rfl (QOp_lss _ _ _ _ _ _ _ rfl rfl rfl) ?_
      refine AOps_nil ?_
      refine ACode_cond _ rfl (fun hb4 => ?_) (fun hb4 => ?_)
      · have h := iteT hb4 h
        refine ACode_skip ?_
        obtain ⟨s10, hss10, hks10⟩ := bindO h
        clear h
        refine ACode_seqJ (fun E' H' => Weak 29 G E' H' [(0, .d (.sl none (intsD p0))), (4, iV s10.1), (5, iV s10.2), (6, iV x3)] []) ?_ ?_
        · have h := hss10
          clear hss10
          refine ACode_block ?_
          obtain ⟨s7, hss7, hks7⟩ := bindO h
          clear h
          refine ACode_seqJ (fun E' H' => Weak 29 G E' H' [(0, .d (.sl none (intsD p0))), (4, iV s7), (5, iV x2), (6, iV x3)] []) ?_ ?_
          · have h := hss7
            clear hss7
            refine ACode_seq (ACode_region ?_)
            refine AOps_q 13 _ rfl rfl rfl (QOp_move _ _ rfl rfl) ?_
            refine AOps_q 14 _ rfl rfl rfl (QOp_move _ _ rfl rfl) ?_
            obtain ⟨hc5, h⟩ := guardO h
            refine AOps_q 15 _ rfl rfl rfl (QOp_indexAddr_sl _ _ _ _ _ _ _ _ rfl Tryd.underlying30 Tryd.sizeOf2 hc5.1 (by rw [intsD_length]; exact hc5.2) rfl rfl) ?_
            refine AOps_q 16 _ rfl rfl rfl (QOp_load_pv _ _ _ _ _ rfl Tryd.isAgg2 rfl (intsD_get _ _ 0 (by omega))) ?_
            refine AOps_q 17 _ rfl rfl rfl (QOp_eql _ _ _ _ _ _ _ rfl rfl rfl) ?_
            refine AOps_nil ?_
            refine ACode_cond _ rfl (fun hb6 => ?_) (fun hb6 => ?_)
            · have h := iteT hb6 h
              refine (ACode_region ?_)
              refine AOps_q 18 _ rfl rfl rfl (QOp_move _ _ rfl rfl) ?_
              refine AOps_q 19 _ rfl rfl rfl (QOp_add _ _ _ _ _ _ _ rfl rfl rfl) ?_
              refine AOps_q 4 _ rfl rfl rfl (QOp_assign _ _ rfl rfl) ?_
              refine AOps_nil ?_
              cases h
              exact Weak_keep 0 hm [0, 4, 5, 6] [] _ _ rfl rfl rfl
            · have h := iteF hb6 h
              refine ACode_skip ?_
              cases h
              exact Weak_keep 0 hm [0, 4, 5, 6] [] _ _ rfl rfl rfl
          intro E' H' hw
          refine ACode_weak hw ?_
          have h := hks7
          refine ACode_seq (ACode_region ?_)
          refine AOps_q 20 _ rfl rfl rfl (QOp_move _ _ rfl rfl) ?_
          refine AOps_q 21 _ rfl rfl rfl (QOp_move _ _ rfl rfl) ?_
          obtain ⟨hc8, h⟩ := guardO h
          refine AOps_q 22 _ rfl rfl rfl (QOp_indexAddr_sl _ _ _ _ _ _ _ _ rfl Tryd.underlying30 Tryd.sizeOf2 hc8.1 (by rw [intsD_length]; exact hc8.2) rfl rfl) ?_
          refine AOps_q 23 _ rfl rfl rfl (QOp_load_pv _ _ _ _ _ rfl Tryd.isAgg2 rfl (intsD_get _ _ 0 (by omega))) ?_
          refine AOps_q 24 _ rfl rfl rfl (QOp_eql _ _ _ _ _ _ _ rfl rfl rfl) ?_
          refine AOps_nil ?_
          refine ACode_cond _ rfl (fun hb9 => ?_) (fun hb9 => ?_)
          · have h := iteT hb9 h
            refine (ACode_region ?_)
            refine AOps_q 25 _ rfl rfl rfl (QOp_move _ _ rfl rfl) ?_
            refine AOps_q 26 _ rfl rfl rfl (QOp_add _ _ _ _ _ _ _ rfl rfl rfl) ?_
            refine AOps_q 5 _ rfl rfl rfl (QOp_assign _ _ rfl rfl) ?_
            refine AOps_nil ?_
            cases h
            exact Weak_keep 0 hm [0, 4, 5, 6] [] _ _ rfl rfl rfl
          · have h := iteF hb9 h
            refine ACode_skip ?_
            cases h
            exact Weak_keep 0 hm [0, 4, 5, 6] [] _ _ rfl rfl rfl
        intro E' H' hw
        refine ACode_weak hw ?_
        have h := hks10
        refine (ACode_region ?_)
        refine AOps_q 11 _ rfl rfl rfl (QOp_move _ _ rfl rfl) ?_
        refine AOps_q 12 _ rfl rfl rfl (QOp_add _ _ _ _ _ _ _ rfl rfl rfl) ?_
        refine AOps_q 6 _ rfl rfl rfl (QOp_assign _ _ rfl rfl) ?_
        refine AOps_nil ?_
        exact ⟨k0, _, _, Nat.lt_succ_self _, Weak_keep 0 hm [0, 4, 5, 6] [] _ _ rfl rfl rfl, _, _, _, rfl, rfl, h⟩
      · have h := iteF hb4 h
        refine ACode_exit ?_
        cases h
        exact Weak_keep 0 hm [4, 5] [] _ _ rfl rfl rfl
  intro E' H' hw
  refine ACode_weak hw ?_
  have h := hks11
  refine ACode_seq (ACode_region ?_)
  refine AOps_q 27 _ rfl rfl rfl (QOp_move _ _ rfl rfl) ?_
  refine AOps_q 28 _ rfl rfl rfl (QOp_move _ _ rfl rfl) ?_
  refine AOps_q 2 _ rfl rfl rfl (QOp_assign _ _ rfl rfl) ?_
  refine AOps_q 3 _ rfl rfl rfl (QOp_assign _ _ rfl rfl) ?_
  refine AOps_nil ?_
  refine ACode_ret ?_
  cases h
  exact ⟨_, _, fun r a w h => ⟨r, h⟩, _, _, [], _, (.cons (ResV_tmp _ _ rfl) (.cons (ResV_tmp _ _ rfl) .nil)), rfl, rfl, rfl, rfl, rfl⟩

-- loop.example/g01362/spec.l09Mover
def spec_l09Mover (k : Nat) (p0 : List Int) : Option (Int) :=
  (spec_l09Counts k p0).bind fun r1 => some (w64 (r1.1 - r1.2))
set_option maxRecDepth 100000 in
theorem spec_l09Mover_ac (k : Nat) (p0 : List Int) (r : Int) (h : spec_l09Mover k p0 = some r) : AC Tryd.prog 56 [.d (.sl none (intsD p0))] [] (fun res H' => res = [iV r] ∧ H' = []) := by
  refine AC_of_body true Tryd.func56 rfl Tryd.ntmps56 (rvs := [.tmp 2]) rfl rfl (fun G hG => ?_)
  have hm : G.H.length = 0 := by rw [hG]; rfl
  have hz : zeroG G.H = true := by rw [hG]; rfl
  unfold spec_l09Mover at h
  refine ACode_seq (ACode_region ?_)
  refine AOps_q 2 _ rfl rfl rfl (QOp_assign _ _ rfl rfl) ?_
  refine AOps_nil ?_
  refine ACode_seq (ACode_region ?_)
  refine AOps_q 6 _ rfl rfl rfl (QOp_move _ _ rfl rfl) ?_
  obtain ⟨r1, hr1, h⟩ := bindO h
  refine AOps_call [] 7 _ _ _ _ _ _ _ _ _ _ rfl rfl rfl rfl rfl rfl rfl Tryd.call72 rfl (nodupB_sound _ rfl) rfl rfl rfl (spec_l09Counts_ac k p0 _ hr1) ?_
  rintro _ _ ⟨rfl, rfl⟩
  refine ⟨(fun _ h => nomatch h), (allc (trivial) (allc (trivial) (fun _ h => nomatch h))), AOps_as 7 (v' := .tup [iV r1.1, iV r1.2]) (H' := []) rfl rfl ?_⟩
  refine AOps_q 5 _ rfl rfl rfl (QOp_move _ _ rfl rfl) ?_
  refine AOps_q 8 _ rfl rfl rfl (QOp_extract _ _ _ _ rfl rfl rfl) ?_
  refine AOps_q 9 _ rfl rfl rfl (QOp_extract _ _ _ _ rfl rfl rfl) ?_
  refine AOps_q 3 _ rfl rfl rfl (QOp_assign _ _ rfl rfl) ?_
  refine AOps_q 4 _ rfl rfl rfl (QOp_assign _ _ rfl rfl) ?_
  refine AOps_nil ?_
  refine ACode_seq (ACode_region ?_)
  refine AOps_q 10 _ rfl rfl rfl (QOp_move _ _ rfl rfl) ?_
  refine AOps_q 11 _ rfl rfl rfl (QOp_move _ _ rfl rfl) ?_
  refine AOps_q 12 _ rfl rfl rfl (QOp_sub _ _ _ _ _ _ _ rfl rfl rfl) ?_
  refine AOps_q 2 _ rfl rfl rfl (QOp_assign _ _ rfl rfl) ?_
  refine AOps_nil ?_
  refine ACode_ret ?_
  cases h
  exact ⟨_, _, fun r a w h => ⟨r, h⟩, _, _, [], _, (.cons (ResV_tmp _ _ rfl) .nil), rfl, rfl, rfl, rfl, rfl⟩

-- loop.example/g01362/spec.l01Edge
def spec_l01Edge (p0 : Int) (p1 : Int) : Int :=
  (if decide (p1 < p0) then w64 ((w64 ((w64 (p0 * (w64 (p0 - 1)))).tdiv 2)) + p1) else w64 ((w64 ((w64 (p1 * (w64 (p1 - 1)))).tdiv 2)) + p0))
set_option maxRecDepth 100000 in
theorem spec_l01Edge_ac (p0 : Int) (p1 : Int) : AC Tryd.prog 49 [iV p0, iV p1] [] (fun res H' => res = [iV (spec_l01Edge p0 p1)] ∧ H' = []) := by
  refine AC_of_body true Tryd.func49 rfl Tryd.ntmps49 (rvs := [.tmp 4]) rfl rfl (fun G hG => ?_)
  have hm : G.H.length = 0 := by rw [hG]; rfl
  have hz : zeroG G.H = true := by rw [hG]; rfl
  obtain ⟨r, h⟩ : ∃ r, spec_l01Edge p0 p1 = r := ⟨_, rfl⟩
  rw [h]
  unfold spec_l01Edge at h
  refine ACode_seq (ACode_region ?_)
  refine AOps_q 4 _ rfl rfl rfl (QOp_assign _ _ rfl rfl) ?_
  refine AOps_nil ?_
  refine ACode_seq ?_
  refine ACode_seq (ACode_region ?_)
  refine AOps_q 5 _ rfl rfl rfl (QOp_move _ _ rfl rfl) ?_
  refine AOps_q 6 _ rfl rfl rfl (QOp_move _ _ rfl rfl) ?_
  refine AOps_q 7 _ rfl rfl rfl (QOp_gtr _ _ _ _ _ _ _ rfl rfl rfl) ?_
  refine AOps_nil ?_
  refine ACode_cond _ rfl (fun hb1 => ?_) (fun hb1 => ?_)
  · have h := iteT hb1 h
    refine ACode_seq (ACode_region ?_)
    refine AOps_q 8 _ rfl rfl rfl (QOp_move _ _ rfl rfl) ?_
    refine AOps_q 9 _ rfl rfl rfl (QOp_move _ _ rfl rfl) ?_
    refine AOps_q 10 _ rfl rfl rfl (QOp_sub _ _ _ _ _ _ _ rfl rfl rfl) ?_
    refine AOps_q 11 _ rfl rfl rfl (QOp_mul _ _ _ _ _ _ _ rfl rfl rfl) ?_
    refine AOps_q 12 _ rfl rfl rfl (QOp_quo _ _ _ _ _ _ _ (by decide) rfl rfl rfl) ?_
    refine AOps_q 13 _ rfl rfl rfl (QOp_move _ _ rfl rfl) ?_
    refine AOps_q 14 _ rfl rfl rfl (QOp_add _ _ _ _ _ _ _ rfl rfl rfl) ?_
    refine AOps_q 4 _ rfl rfl rfl (QOp_assign _ _ rfl rfl) ?_
    refine AOps_nil ?_
    refine ACode_ret ?_
    cases h
    exact ⟨_, _, fun r a w h => ⟨r, h⟩, _, _, [], _, (.cons (ResV_tmp _ _ rfl) .nil), rfl, rfl, rfl, rfl, rfl⟩
  · have h := iteF hb1 h
    refine ACode_skip ?_
    refine ACode_seq (ACode_region ?_)
    refine AOps_q 15 _ rfl rfl rfl (QOp_move _ _ rfl rfl) ?_
    refine AOps_q 16 _ rfl rfl rfl (QOp_move _ _ rfl rfl) ?_
    refine AOps_q 17 _ rfl rfl rfl (QOp_sub _ _ _ _ _ _ _ rfl rfl rfl) ?_
    refine AOps_q 18 _ rfl rfl rfl (QOp_mul _ _ _ _ _ _ _ rfl rfl rfl) ?_
    refine AOps_q 19 _ rfl rfl rfl (QOp_quo _ _ _ _ _ _ _ (by decide) rfl rfl rfl) ?_
    refine AOps_q 20 _ rfl rfl rfl (QOp_move _ _ rfl rfl) ?_
    refine AOps_q 21 _ rfl rfl rfl (QOp_add _ _ _ _ _ _ _ rfl rfl rfl) ?_
    refine AOps_q 4 _ rfl rfl rfl (QOp_assign _ _ rfl rfl) ?_
    refine AOps_nil ?_
    refine ACode_ret ?_
    cases h
    exact ⟨_, _, fun r a w h => ⟨r, h⟩, _, _, [], _, (.cons (ResV_tmp _ _ rfl) .nil), rfl, rfl, rfl, rfl, rfl⟩

-- loop.example/g01362/spec.l09Common
def spec_l09Common_l2 (p1 : List Int) (p2 : Int) (x4 : Int) (x8 : Int) : Nat → Int → Int → Int → Option (Int × Int)
  | 0, _, _, _ => none
  | k2 + 1, x10, x11, x12 => (if decide (x12 < x8) then (((if 0 ≤ (spec_l01Edge x12 x8) ∧ (spec_l01Edge x12 x8) < (p1.length : Int) then (if decide ((p1.getD (spec_l01Edge x12 x8).toNat 0) = p2) then (if 0 ≤ (spec_l01Edge x12 x4) ∧ (spec_l01Edge x12 x4) < (p1.length : Int) then (if decide ((p1.getD (spec_l01Edge x12 x4).toNat 0) = p2) then (if 0 ≤ (spec_l01Edge x8 x4) ∧ (spec_l01Edge x8 x4) < (p1.length : Int) then some (decide ((p1.getD (spec_l01Edge x8 x4).toNat 0) = p2)) else none) else some false) else none) else some false) else none) : Option (Bool)).bind fun s22 => (if s22 then (if 0 ≤ IntKind.u64.wrap (spec_l01Edge x12 x8) then (if 0 ≤ IntKind.u64.wrap (spec_l01Edge x12 x4) then (if 0 ≤ IntKind.u64.wrap (spec_l01Edge x8 x4) then some (bAnd .i64 x10 (bOr .i64 (bOr .i64 (bShl .i64 1 (IntKind.u64.wrap (spec_l01Edge x12 x8))) (bShl .i64 1 (IntKind.u64.wrap (spec_l01Edge x12 x4)))) (bShl .i64 1 (IntKind.u64.wrap (spec_l01Edge x8 x4)))), w64 (x11 + 1)) else none) else none) else none) else some (x10, x11)) : Option (Int × Int)).bind fun s27 => spec_l09Common_l2 p1 p2 x4 x8 k2 s27.1 s27.2 (w64 (x12 + 1)) else some (x10, x11))
def spec_l09Common_l1 (k : Nat) (p1 : List Int) (p2 : Int) (x4 : Int) : Nat → Int → Int → Int → Option (Int × Int)
  | 0, _, _, _ => none
  | k1 + 1, x6, x7, x8 => (if decide (x8 < x4) then (spec_l09Common_l2 p1 p2 x4 x8 k x6 x7 0 : Option (Int × Int)).bind fun s28 => spec_l09Common_l1 k p1 p2 x4 k1 s28.1 s28.2 (w64 (x8 + 1)) else some (x6, x7))
def spec_l09Common_l0 (k : Nat) (p0 : Int) (p1 : List Int) (p2 : Int) : Nat → Int → Int → Int → Option (Int × Int)
  | 0, _, _, _ => none
  | k0 + 1, x2, x3, x4 => (if decide (x4 < p0) then (spec_l09Common_l1 k p1 p2 x4 k x2 x3 1 : Option (Int × Int)).bind fun s29 => spec_l09Common_l0 k p0 p1 p2 k0 s29.1 s29.2 (w64 (x4 + 1)) else some (x2, x3))
def spec_l09Common (k : Nat) (p0 : Int) (p1 : List Int) (p2 : Int) : Option (Int × Int) :=
  (if 0 ≤ IntKind.u64.wrap (p1.length : Int) then (spec_l09Common_l0 k p0 p1 p2 k (w64 ((bShl .i64 1 (IntKind.u64.wrap (p1.length : Int))) - 1)) 0 2 : Option (Int × Int)).bind fun s30 => some (s30.1, s30.2) else none)
set_option maxRecDepth 100000 in
theorem spec_l09Common_ac (k : Nat) (p0 : Int) (p1 : List Int) (p2 : Int) (r : Int × Int) (h : spec_l09Common k p0 p1 p2 = some r) : AC Tryd.prog 57 [iV p0, .d (.sl none (intsD p1)), iV p2] [] (fun res H' => res = [iV r.1, iV r.2] ∧ H' = []) := by
  refine AC_of_body true Tryd.func57 rfl Tryd.ntmps57 (rvs := [.tmp 6, .tmp 7]) rfl rfl (fun G hG => ?_)
  have hm : G.H.length = 0 := by rw [hG]; rfl
  have hz : zeroG G.H = true := by rw [hG]; rfl
  unfold spec_l09Common at h
  refine ACode_seq (ACode_region ?_)
  refine AOps_q 6 _ rfl rfl rfl (QOp_assign _ _ rfl rfl) ?_
  refine AOps_q 7 _ rfl rfl rfl (QOp_assign _ _ rfl rfl) ?_
  refine AOps_nil ?_
  refine ACode_seq (ACode_region ?_)
  refine AOps_q 16 _ rfl rfl rfl (QOp_move _ _ rfl rfl) ?_
  refine AOps_q 17 _ rfl rfl rfl (QOp_len_sl _ _ _ _ _ _ _ (intsD_length _) rfl rfl rfl rfl Tryd.underlying30 rfl) ?_
  refine AOps_q 18 _ rfl rfl rfl (QOp_conv _ _ _ _ _ _ rfl rfl Tryd.underlying91 rfl) ?_
  obtain ⟨hc1, h⟩ := guardO h
  refine AOps_q 19 _ rfl rfl rfl (QOp_shl _ _ _ _ _ _ _ _ hc1 rfl rfl rfl) ?_
  refine AOps_q 20 _ rfl rfl rfl (QOp_sub _ _ _ _ _ _ _ rfl rfl rfl) ?_
  refine AOps_q 8 _ rfl rfl rfl (QOp_assign _ _ rfl rfl) ?_
  refine AOps_q 9 _ rfl rfl rfl (QOp_assign _ _ rfl rfl) ?_
  refine AOps_nil ?_
  obtain ⟨s30, hss30, hks30⟩ := bindO h
  clear h
  refine ACode_seqJ (fun E' H' => Weak 84 G E' H' [(8, iV s30.1), (9, iV s30.2)] []) ?_ ?_
  · have h := hss30
    clear hss30
    refine ACode_seq (ACode_region ?_)
    refine AOps_q 10 _ rfl rfl rfl (QOp_assign _ _ rfl rfl) ?_
    refine AOps_nil ?_
    refine ACode_block ?_
    refine ACode_loopW (fun k0 E H => ∃ (x2 : Int) (x3 : Int) (x4 : Int), E = [(0, iV p0), (1, .d (.sl none (intsD p1))), (2, iV p2), (8, iV x2), (9, iV x3), (10, iV x4)] ∧ H = [] ∧ spec_l09Common_l0 k p0 p1 p2 k0 x2 x3 x4 = some s30) k _ _ (Weak_keep 0 hm [0, 1, 2, 8, 9, 10] [] _ _ rfl rfl rfl) ⟨_, _, _, rfl, rfl, h⟩ ?_
    clear h
    rintro k0 E H ⟨x2, x3, x4, rfl, rfl, h⟩
    cases k0 with
    | zero => cases (show (none : Option (Int × Int)) = some _ from h)
    | succ k0 =>
      rw [spec_l09Common_l0] at h
      refine ACode_seq ?_
      refine ACode_seq (ACode_region ?_)
      refine AOps_q 21 _ rfl rfl rfl (QOp_move _ _ rfl rfl) ?_
      refine AOps_q 22 _ rfl rfl rfl (QOp_move _ _ rfl rfl) ?_
      refine AOps_q 23 _ rfl rfl rfl (QOp_lss _ _ _ _ _ _ _ rfl rfl rfl) ?_
      refine AOps_nil ?_
      refine ACode_cond _ rfl (fun hb5 => ?_) (fun hb5 => ?_)
      · have h := iteT hb5 h
        refine ACode_skip ?_
        obtain ⟨s29, hss29, hks29⟩ := bindO h
        clear h
        refine ACode_seqJ (fun E' H' => Weak 84 G E' H' [(0, iV p0), (1, .d (.sl none (intsD p1))), (2, iV p2), (8, iV s29.1), (9, iV s29.2), (10, iV x4)] []) ?_ ?_
        · have h := hss29
          clear hss29
          refine ACode_block ?_
          refine ACode_seq (ACode_region ?_)
          refine AOps_q 11 _ rfl rfl rfl (QOp_assign _ _ rfl rfl) ?_
          refine AOps_nil ?_
          refine ACode_block ?_
          refine ACode_loopW (fun k1 E H => ∃ (x6 : Int) (x7 : Int) (x8 : Int), E = [(0, iV p0), (1, .d (.sl none (intsD p1))), (2, iV p2), (8, iV x6), (9, iV x7), (10, iV x4), (11, iV x8)] ∧ H = [] ∧ spec_l09Common_l1 k p1 p2 x4 k1 x6 x7 x8 = some s29) k _ _ (Weak_keep 0 hm [0, 1, 2, 8, 9, 10, 11] [] _ _ rfl rfl rfl) ⟨_, _, _, rfl, rfl, h⟩ ?_
          clear h
          rintro k1 E H ⟨x6, x7, x8, rfl, rfl, h⟩
          cases k1 with
          | zero => cases (show (none : Option (Int × Int)) = some _ from h)
          | succ k1 =>
            rw [spec_l09Common_l1] at h
            refine ACode_seq ?_
            refine ACode_seq (ACode_region ?_)
            refine AOps_q 26 _ rfl rfl rfl (QOp_move _ _ rfl rfl) ?_
            refine AOps_q 27 _ rfl rfl rfl (QOp_move _ _ rfl rfl) ?_
            refine AOps_q 28 _ rfl rfl rfl (QOp_lss _ _ _ _ _ _ _ rfl rfl rfl) ?_
            refine AOps_nil ?_
            refine ACode_cond _ rfl (fun hb9 => ?_) (fun hb9 => ?_)
            · have h := iteT hb9 h
              refine ACode_skip ?_
              obtain ⟨s28, hss28, hks28⟩ := bindO h
              clear h
              refine ACode_seqJ (fun E' H' => Weak 84 G E' H' [(0, iV p0), (1, .d (.sl none (intsD p1))), (2, iV p2), (8, iV s28.1), (9, iV s28.2), (10, iV x4), (11, iV x8)] []) ?_ ?_
              · have h := hss28
                clear hss28
                refine ACode_block ?_
                refine ACode_seq (ACode_region ?_)
                refine AOps_q 12 _ rfl rfl rfl (QOp_assign _ _ rfl rfl) ?_
                refine AOps_nil ?_
                refine ACode_block ?_
                refine ACode_loopW (fun k2 E H => ∃ (x10 : Int) (x11 : Int) (x12 : Int), E = [(0, iV p0), (1, .d (.sl none (intsD p1))), (2, iV p2), (8, iV x10), (9, iV x11), (10, iV x4), (11, iV x8), (12, iV x12)] ∧ H = [] ∧ spec_l09Common_l2 p1 p2 x4 x8 k2 x10 x11 x12 = some s28) k _ _ (Weak_keep 0 hm [0, 1, 2, 8, 9, 10, 11, 12] [] _ _ rfl rfl rfl) ⟨_, _, _, rfl, rfl, h⟩ ?_
                clear h
                rintro k2 E H ⟨x10, x11, x12, rfl, rfl, h⟩
                cases k2 with
                | zero => cases (show (none : Option (Int × Int)) = some _ from h)
                | succ k2 =>
                  rw [spec_l09Common_l2] at h
                  refine ACode_seq ?_
                  refine ACode_seq (ACode_region ?_)
                  refine AOps_q 31 _ rfl rfl rfl (QOp_move _ _ rfl rfl) ?_
                  refine AOps_q 32 _ rfl rfl rfl (QOp_move _ _ rfl rfl) ?_
                  refine AOps_q 33 _ rfl rfl rfl (QOp_lss _ _ _ _ _ _ _ rfl rfl rfl) ?_
                  refine AOps_nil ?_
                  refine ACode_cond _ rfl (fun hb13 => ?_) (fun hb13 => ?_)
                  · have h := iteT hb13 h
                    refine ACode_skip ?_
                    obtain ⟨s27, hss27, hks27⟩ := bindO h
                    clear h
                    refine ACode_seqJ (fun E' H' => Weak 84 G E' H' [(0, iV p0), (1, .d (.sl none (intsD p1))), (2, iV p2), (8, iV s27.1), (9, iV s27.2), (10, iV x4), (11, iV x8), (12, iV x12)] []) ?_ ?_
                    · have h := hss27
                      clear hss27
                      refine ACode_block ?_
                      refine ACode_seq (ACode_region ?_)
                      refine AOps_q 36 _ rfl rfl rfl (QOp_move _ _ rfl rfl) ?_
                      refine AOps_q 37 _ rfl rfl rfl (QOp_move _ _ rfl rfl) ?_
                      refine AOps_call [] 38 _ _ _ _ _ _ _ _ _ _ rfl rfl rfl rfl rfl rfl rfl Tryd.call49 rfl (nodupB_sound _ rfl) rfl rfl rfl (spec_l01Edge_ac x12 x8) ?_
                      rintro _ _ ⟨rfl, rfl⟩
                      refine ⟨(fun _ h => nomatch h), (allc (trivial) (fun _ h => nomatch h)), AOps_as 38 (v' := iV (spec_l01Edge x12 x8)) (H' := []) rfl rfl ?_⟩
                      refine AOps_q 39 _ rfl rfl rfl (QOp_move _ _ rfl rfl) ?_
                      refine AOps_q 40 _ rfl rfl rfl (QOp_move _ _ rfl rfl) ?_
                      refine AOps_call [] 41 _ _ _ _ _ _ _ _ _ _ rfl rfl rfl rfl rfl rfl rfl Tryd.call49 rfl (nodupB_sound _ rfl) rfl rfl rfl (spec_l01Edge_ac x12 x4) ?_
                      rintro _ _ ⟨rfl, rfl⟩
                      refine ⟨(fun _ h => nomatch h), (allc (trivial) (fun _ h => nomatch h)), AOps_as 41 (v' := iV (spec_l01Edge x12 x4)) (H' := []) rfl rfl ?_⟩
                      refine AOps_q 42 _ rfl rfl rfl (QOp_move _ _ rfl rfl) ?_
                      refine AOps_q 43 _ rfl rfl rfl (QOp_move _ _ rfl rfl) ?_
                      refine AOps_call [] 44 _ _ _ _ _ _ _ _ _ _ rfl rfl rfl rfl rfl rfl rfl Tryd.call49 rfl (nodupB_sound _ rfl) rfl rfl rfl (spec_l01Edge_ac x8 x4) ?_
                      rintro _ _ ⟨rfl, rfl⟩
                      refine ⟨(fun _ h => nomatch h), (allc (trivial) (fun _ h => nomatch h)), AOps_as 44 (v' := iV (spec_l01Edge x8 x4)) (H' := []) rfl rfl ?_⟩
                      refine AOps_q 13 _ rfl rfl rfl (QOp_assign _ _ rfl rfl) ?_
                      refine AOps_q 14 _ rfl rfl rfl (QOp_assign _ _ rfl rfl) ?_
                      refine AOps_q 15 _ rfl rfl rfl (QOp_assign _ _ rfl rfl) ?_
                      refine AOps_nil ?_
                      obtain ⟨s22, hss22, hks22⟩ := bindO h
                      clear h
                      refine ACode_seqJ (fun E' H' => Weak 84 G E' H' [(0, iV p0), (1, .d (.sl none (intsD p1))), (2, iV p2), (8, iV x10), (9, iV x11), (10, iV x4), (11, iV x8), (12, iV x12), (13, iV (spec_l01Edge x12 x8)), (14, iV (spec_l01Edge x12 x4)), (15, iV (spec_l01Edge x8 x4)), (66, bV s22)] []) ?_ ?_
                      · have h := hss22
                        clear hss22
                        refine (ACode_region ?_)
                        refine AOps_q 45 _ rfl rfl rfl (QOp_move _ _ rfl rfl) ?_
                        refine AOps_q 46 _ rfl rfl rfl (QOp_move _ _ rfl rfl) ?_
                        obtain ⟨hc17, h⟩ := guardO h
                        refine AOps_q 47 _ rfl rfl rfl (QOp_indexAddr_sl _ _ _ _ _ _ _ _ rfl Tryd.underlying30 Tryd.sizeOf2 hc17.1 (by rw [intsD_length]; exact hc17.2) rfl rfl) ?_
                        refine AOps_q 48 _ rfl rfl rfl (QOp_load_pv _ _ _ _ _ rfl Tryd.isAgg2 rfl (intsD_get _ _ 0 (by omega))) ?_
                        refine AOps_q 49 _ rfl rfl rfl (QOp_move _ _ rfl rfl) ?_
                        refine AOps_q 50 _ rfl rfl rfl (QOp_eql _ _ _ _ _ _ _ rfl rfl rfl) ?_
                        refine AOps_q 51 _ rfl rfl rfl (QOp_move _ _ rfl rfl) ?_
                        refine AOps_case 51 _ rfl (fun hb18 => ?_) (fun hb18 => ?_)
                        · have h := iteT hb18 h
                          refine AOps_q 52 _ rfl rfl rfl (QOp_move _ _ rfl rfl) ?_
                          refine AOps_q 53 _ rfl rfl rfl (QOp_move _ _ rfl rfl) ?_
                          obtain ⟨hc19, h⟩ := guardO h
                          refine AOps_q 54 _ rfl rfl rfl (QOp_indexAddr_sl _ _ _ _ _ _ _ _ rfl Tryd.underlying30 Tryd.sizeOf2 hc19.1 (by rw [intsD_length]; exact hc19.2) rfl rfl) ?_
                          refine AOps_q 55 _ rfl rfl rfl (QOp_load_pv _ _ _ _ _ rfl Tryd.isAgg2 rfl (intsD_get _ _ 0 (by omega))) ?_
                          refine AOps_q 56 _ rfl rfl rfl (QOp_move _ _ rfl rfl) ?_
                          refine AOps_q 57 _ rfl rfl rfl (QOp_eql _ _ _ _ _ _ _ rfl rfl rfl) ?_
                          refine AOps_q 58 _ rfl rfl rfl (QOp_pick_t _ _ _ _ rfl rfl rfl) ?_
                          refine AOps_q 59 _ rfl rfl rfl (QOp_move _ _ rfl rfl) ?_
                          refine AOps_case 59 _ rfl (fun hb20 => ?_) (fun hb20 => ?_)
                          · have h := iteT hb20 h
                            refine AOps_q 60 _ rfl rfl rfl (QOp_move _ _ rfl rfl) ?_
                            refine AOps_q 61 _ rfl rfl rfl (QOp_move _ _ rfl rfl) ?_
                            obtain ⟨hc21, h⟩ := guardO h
                            refine AOps_q 62 _ rfl rfl rfl (QOp_indexAddr_sl _ _ _ _ _ _ _ _ rfl Tryd.underlying30 Tryd.sizeOf2 hc21.1 (by rw [intsD_length]; exact hc21.2) rfl rfl) ?_
                            refine AOps_q 63 _ rfl rfl rfl (QOp_load_pv _ _ _ _ _ rfl Tryd.isAgg2 rfl (intsD_get _ _ 0 (by omega))) ?_
                            refine AOps_q 64 _ rfl rfl rfl (QOp_move _ _ rfl rfl) ?_
                            refine AOps_q 65 _ rfl rfl rfl (QOp_eql _ _ _ _ _ _ _ rfl rfl rfl) ?_
                            refine AOps_q 66 _ rfl rfl rfl (QOp_pick_t _ _ _ _ rfl rfl rfl) ?_
                            refine AOps_nil ?_
                            cases h
                            exact Weak_keep 0 hm [0, 1, 2, 8, 9, 10, 11, 12, 13, 14, 15, 66] [] _ _ rfl rfl rfl
                          · have h := iteF hb20 h
                            refine AOps_skip 60 rfl rfl rfl ?_
                            refine AOps_skip 61 rfl rfl rfl ?_
                            refine AOps_skip 62 rfl rfl rfl ?_
                            refine AOps_skip 63 rfl rfl rfl ?_
                            refine AOps_skip 64 rfl rfl rfl ?_
                            refine AOps_skip 65 rfl rfl rfl ?_
                            refine AOps_q 66 _ rfl rfl rfl (QOp_pick_f _ _ _ _ rfl rfl rfl) ?_
                            refine AOps_nil ?_
                            cases h
                            exact Weak_keep 0 hm [0, 1, 2, 8, 9, 10, 11, 12, 13, 14, 15, 66] [] _ _ rfl rfl rfl
                        · have h := iteF hb18 h
                          refine AOps_skip 52 rfl rfl rfl ?_
                          refine AOps_skip 53 rfl rfl rfl ?_
                          refine AOps_skip 54 rfl rfl rfl ?_
                          refine AOps_skip 55 rfl rfl rfl ?_
                          refine AOps_skip 56 rfl rfl rfl ?_
                          refine AOps_skip 57 rfl rfl rfl ?_
                          refine AOps_q 58 _ rfl rfl rfl (QOp_pick_f _ _ _ _ rfl rfl rfl) ?_
                          refine AOps_q 59 _ rfl rfl rfl (QOp_move _ _ rfl rfl) ?_
                          refine AOps_skip 60 rfl rfl rfl ?_
                          refine AOps_skip 61 rfl rfl rfl ?_
                          refine AOps_skip 62 rfl rfl rfl ?_
                          refine AOps_skip 63 rfl rfl rfl ?_
                          refine AOps_skip 64 rfl rfl rfl ?_
                          refine AOps_skip 65 rfl rfl rfl ?_
                          refine AOps_q 66 _ rfl rfl rfl (QOp_pick_f _ _ _ _ rfl rfl rfl) ?_
                          refine AOps_nil ?_
                          cases h
                          exact Weak_keep 0 hm [0, 1, 2, 8, 9, 10, 11, 12, 13, 14, 15, 66] [] _ _ rfl rfl rfl
                      intro E' H' hw
                      refine ACode_weak hw ?_
                      have h := hks22
                      refine ACode_cond _ rfl (fun hb23 => ?_) (fun hb23 => ?_)
                      · have h := iteT hb23 h
                        refine ACode_seq (ACode_region ?_)
                        refine AOps_q 67 _ rfl rfl rfl (QOp_move _ _ rfl rfl) ?_
                        refine AOps_q 68 _ rfl rfl rfl (QOp_add _ _ _ _ _ _ _ rfl rfl rfl) ?_
                        refine AOps_q 9 _ rfl rfl rfl (QOp_assign _ _ rfl rfl) ?_
                        refine AOps_nil ?_
                        refine (ACode_region ?_)
                        refine AOps_q 69 _ rfl rfl rfl (QOp_move _ _ rfl rfl) ?_
                        refine AOps_q 70 _ rfl rfl rfl (QOp_move _ _ rfl rfl) ?_
                        refine AOps_q 71 _ rfl rfl rfl (QOp_conv _ _ _ _ _ _ rfl rfl Tryd.underlying91 rfl) ?_
                        obtain ⟨hc24, h⟩ := guardO h
                        refine AOps_q 72 _ rfl rfl rfl (QOp_shl _ _ _ _ _ _ _ _ hc24 rfl rfl rfl) ?_
                        refine AOps_q 73 _ rfl rfl rfl (QOp_move _ _ rfl rfl) ?_
                        refine AOps_q 74 _ rfl rfl rfl (QOp_conv _ _ _ _ _ _ rfl rfl Tryd.underlying91 rfl) ?_
                        obtain ⟨hc25, h⟩ := guardO h
                        refine AOps_q 75 _ rfl rfl rfl (QOp_shl _ _ _ _ _ _ _ _ hc25 rfl rfl rfl) ?_
                        refine AOps_q 76 _ rfl rfl rfl (QOp_or _ _ _ _ _ _ _ rfl rfl rfl) ?_
                        refine AOps_q 77 _ rfl rfl rfl (QOp_move _ _ rfl rfl) ?_
                        refine AOps_q 78 _ rfl rfl rfl (QOp_conv _ _ _ _ _ _ rfl rfl Tryd.underlying91 rfl) ?_
                        obtain ⟨hc26, h⟩ := guardO h
                        refine AOps_q 79 _ rfl rfl rfl (QOp_shl _ _ _ _ _ _ _ _ hc26 rfl rfl rfl) ?_
                        refine AOps_q 80 _ rfl rfl rfl (QOp_or _ _ _ _ _ _ _ rfl rfl rfl) ?_
                        refine AOps_q 81 _ rfl rfl rfl (QOp_and _ _ _ _ _ _ _ rfl rfl rfl) ?_
                        refine AOps_q 8 _ rfl rfl rfl (QOp_assign _ _ rfl rfl) ?_
                        refine AOps_nil ?_
                        cases h
                        exact Weak_keep 0 hm [0, 1, 2, 8, 9, 10, 11, 12] [] _ _ rfl rfl rfl
                      · have h := iteF hb23 h
                        refine ACode_skip ?_
                        cases h
                        exact Weak_keep 0 hm [0, 1, 2, 8, 9, 10, 11, 12] [] _ _ rfl rfl rfl
                    intro E' H' hw
                    refine ACode_weak hw ?_
                    have h := hks27
                    refine (ACode_region ?_)
                    refine AOps_q 34 _ rfl rfl rfl (QOp_move _ _ rfl rfl) ?_
                    refine AOps_q 35 _ rfl rfl rfl (QOp_add _ _ _ _ _ _ _ rfl rfl rfl) ?_
                    refine AOps_q 12 _ rfl rfl rfl (QOp_assign _ _ rfl rfl) ?_
                    refine AOps_nil ?_
                    exact ⟨k2, _, _, Nat.lt_succ_self _, Weak_keep 0 hm [0, 1, 2, 8, 9, 10, 11, 12] [] _ _ rfl rfl rfl, _, _, _, rfl, rfl, h⟩
                  · have h := iteF hb13 h
                    refine ACode_exit ?_
                    cases h
                    exact Weak_keep 0 hm [0, 1, 2, 8, 9, 10, 11] [] _ _ rfl rfl rfl
              intro E' H' hw
              refine ACode_weak hw ?_
              have h := hks28
              refine (ACode_region ?_)
              refine AOps_q 29 _ rfl rfl rfl (QOp_move _ _ rfl rfl) ?_
              refine AOps_q 30 _ rfl rfl rfl (QOp_add _ _ _ _ _ _ _ rfl rfl rfl) ?_
              refine AOps_q 11 _ rfl rfl rfl (QOp_assign _ _ rfl rfl) ?_
              refine AOps_nil ?_
              exact ⟨k1, _, _, Nat.lt_succ_self _, Weak_keep 0 hm [0, 1, 2, 8, 9, 10, 11] [] _ _ rfl rfl rfl, _, _, _, rfl, rfl, h⟩
            · have h := iteF hb9 h
              refine ACode_exit ?_
              cases h
              exact Weak_keep 0 hm [0, 1, 2, 8, 9, 10] [] _ _ rfl rfl rfl
        intro E' H' hw
        refine ACode_weak hw ?_
        have h := hks29
        refine (ACode_region ?_)
        refine AOps_q 24 _ rfl rfl rfl (QOp_move _ _ rfl rfl) ?_
        refine AOps_q 25 _ rfl rfl rfl (QOp_add _ _ _ _ _ _ _ rfl rfl rfl) ?_
        refine AOps_q 10 _ rfl rfl rfl (QOp_assign _ _ rfl rfl) ?_
        refine AOps_nil ?_
        exact ⟨k0, _, _, Nat.lt_succ_self _, Weak_keep 0 hm [0, 1, 2, 8, 9, 10] [] _ _ rfl rfl rfl, _, _, _, rfl, rfl, h⟩
      · have h := iteF hb5 h
        refine ACode_exit ?_
        cases h
        exact Weak_keep 0 hm [8, 9] [] _ _ rfl rfl rfl
  intro E' H' hw
  refine ACode_weak hw ?_
  have h := hks30
  refine ACode_seq (ACode_region ?_)
  refine AOps_q 82 _ rfl rfl rfl (QOp_move _ _ rfl rfl) ?_
  refine AOps_q 83 _ rfl rfl rfl (QOp_move _ _ rfl rfl) ?_
  refine AOps_q 6 _ rfl rfl rfl (QOp_assign _ _ rfl rfl) ?_
  refine AOps_q 7 _ rfl rfl rfl (QOp_assign _ _ rfl rfl) ?_
  refine AOps_nil ?_
  refine ACode_ret ?_
  cases h
  exact ⟨_, _, fun r a w h => ⟨r, h⟩, _, _, [], _, (.cons (ResV_tmp _ _ rfl) (.cons (ResV_tmp _ _ rfl) .nil)), rfl, rfl, rfl, rfl, rfl⟩

-- loop.example/g01362/spec.l09Is
def spec_l09Is (k : Nat) (p0 : Int) (p1 : List Int) : Option (Bool) :=
  (spec_l09Mover k p1).bind fun r1 => (letO (if !decide (r1 = 0) then !decide (r1 = 1) else false) fun (s3 : Bool) => (if s3 then some (.inr false) else some (.inl ())) : Option (Sum (Unit) (Bool))).bind fun os5 => (match os5 with | .inl s5 => (spec_l09Common k p0 p1 r1).bind fun r6 => (spec_l09Common k p0 p1 (w64 (1 - r1))).bind fun r7 => letO (if decide (r6.2 = 0) then (if decide (r7.2 = 0) then true else !decide (r7.1 = 0)) else false) fun (s10 : Bool) => some s10 | .inr rr => some rr)
set_option maxRecDepth 100000 in
theorem spec_l09Is_ac (k : Nat) (p0 : Int) (p1 : List Int) (r : Bool) (h : spec_l09Is k p0 p1 = some r) : AC Tryd.prog 40 [iV p0, .d (.sl none (intsD p1))] [] (fun res H' => res = [bV r] ∧ H' = []) := by
  refine AC_of_body true Tryd.func40 rfl Tryd.ntmps40 (rvs := [.tmp 4]) rfl rfl (fun G hG => ?_)
  have hm : G.H.length = 0 := by rw [hG]; rfl
  have hz : zeroG G.H = true := by rw [hG]; rfl
  unfold spec_l09Is at h
  refine ACode_seq (ACode_region ?_)
  refine AOps_q 4 _ rfl rfl rfl (QOp_assign _ _ rfl rfl) ?_
  refine AOps_nil ?_
  refine ACode_seq (ACode_region ?_)
  refine AOps_q 10 _ rfl rfl rfl (QOp_move _ _ rfl rfl) ?_
  obtain ⟨r1, hr1, h⟩ := bindO h
  refine AOps_call [] 11 _ _ _ _ _ _ _ _ _ _ rfl rfl rfl rfl rfl rfl rfl Tryd.call56 rfl (nodupB_sound _ rfl) rfl rfl rfl (spec_l09Mover_ac k p1 _ hr1) ?_
  rintro _ _ ⟨rfl, rfl⟩
  refine ⟨(fun _ h => nomatch h), (allc (trivial) (fun _ h => nomatch h)), AOps_as 11 (v' := iV r1) (H' := []) rfl rfl ?_⟩
  refine AOps_q 5 _ rfl rfl rfl (QOp_assign _ _ rfl rfl) ?_
  refine AOps_nil ?_
  obtain ⟨os5, hss5, hks5⟩ := bindO h
  clear h
  refine ACode_seqJ (fun E' H' => ∃ s5 : Unit, os5 = .inl s5 ∧ Weak 43 G E' H' [(0, iV p0), (1, .d (.sl none (intsD p1))), (5, iV r1)] []) ?_ ?_
  · have h := hss5
    clear hss5
    obtain ⟨s3, hss3, hks3⟩ := letS h
    clear h
    refine ACode_seqJ (fun E' H' => Weak 43 G E' H' [(0, iV p0), (1, .d (.sl none (intsD p1))), (5, iV r1), (17, bV s3)] []) ?_ ?_
    · have h := hss3
      clear hss3
      refine (ACode_region ?_)
      refine AOps_q 12 _ rfl rfl rfl (QOp_move _ _ rfl rfl) ?_
      refine AOps_q 13 _ rfl rfl rfl (QOp_neq _ _ _ _ _ _ _ rfl rfl rfl) ?_
      refine AOps_q 14 _ rfl rfl rfl (QOp_move _ _ rfl rfl) ?_
      refine AOps_case 14 _ rfl (fun hb2 => ?_) (fun hb2 => ?_)
      · have h := iteT hb2 h
        refine AOps_q 15 _ rfl rfl rfl (QOp_move _ _ rfl rfl) ?_
        refine AOps_q 16 _ rfl rfl rfl (QOp_neq _ _ _ _ _ _ _ rfl rfl rfl) ?_
        refine AOps_q 17 _ rfl rfl rfl (QOp_pick_t _ _ _ _ rfl rfl rfl) ?_
        refine AOps_nil ?_
        cases h
        exact Weak_keep 0 hm [0, 1, 5, 17] [] _ _ rfl rfl rfl
      · have h := iteF hb2 h
        refine AOps_skip 15 rfl rfl rfl ?_
        refine AOps_skip 16 rfl rfl rfl ?_
        refine AOps_q 17 _ rfl rfl rfl (QOp_pick_f _ _ _ _ rfl rfl rfl) ?_
        refine AOps_nil ?_
        cases h
        exact Weak_keep 0 hm [0, 1, 5, 17] [] _ _ rfl rfl rfl
    intro E' H' hw
    refine ACode_weak hw ?_
    have h := hks3
    refine ACode_cond _ rfl (fun hb4 => ?_) (fun hb4 => ?_)
    · have h := iteT hb4 h
      refine ACode_seq (ACode_region ?_)
      refine AOps_q 4 _ rfl rfl rfl (QOp_assign _ _ rfl rfl) ?_
      refine AOps_nil ?_
      refine ACode_ret ?_
      cases h
      have h := hks5
      cases h
      exact ⟨_, _, fun r a w h => ⟨r, h⟩, _, _, [], _, (.cons (ResV_tmp _ _ rfl) .nil), rfl, rfl, rfl, rfl, rfl⟩
    · have h := iteF hb4 h
      refine ACode_skip ?_
      cases h
      exact ⟨_, rfl, Weak_keep 0 hm [0, 1, 5] [] _ _ rfl rfl rfl⟩
  rintro E' H' ⟨s5, rfl, hw⟩
  refine ACode_weak hw ?_
  have h := hks5
  refine ACode_seq (ACode_region ?_)
  refine AOps_q 19 _ rfl rfl rfl (QOp_move _ _ rfl rfl) ?_
  refine AOps_q 20 _ rfl rfl rfl (QOp_move _ _ rfl rfl) ?_
  refine AOps_q 21 _ rfl rfl rfl (QOp_move _ _ rfl rfl) ?_
  obtain ⟨r6, hr6, h⟩ := bindO h
  refine AOps_call [] 22 _ _ _ _ _ _ _ _ _ _ rfl rfl rfl rfl rfl rfl rfl Tryd.call57 rfl (nodupB_sound _ rfl) rfl rfl rfl (spec_l09Common_ac k p0 p1 r1 _ hr6) ?_
  rintro _ _ ⟨rfl, rfl⟩
  refine ⟨(fun _ h => nomatch h), (allc (trivial) (allc (trivial) (fun _ h => nomatch h))), AOps_as 22 (v' := .tup [iV r6.1, iV r6.2]) (H' := []) rfl rfl ?_⟩
  refine AOps_q 18 _ rfl rfl rfl (QOp_move _ _ rfl rfl) ?_
  refine AOps_q 23 _ rfl rfl rfl (QOp_extract _ _ _ _ rfl rfl rfl) ?_
  refine AOps_q 24 _ rfl rfl rfl (QOp_extract _ _ _ _ rfl rfl rfl) ?_
  refine AOps_q 6 _ rfl rfl rfl (QOp_assign _ _ rfl rfl) ?_
  refine AOps_q 7 _ rfl rfl rfl (QOp_assign _ _ rfl rfl) ?_
  refine AOps_nil ?_
  refine ACode_seq (ACode_region ?_)
  refine AOps_q 26 _ rfl rfl rfl (QOp_move _ _ rfl rfl) ?_
  refine AOps_q 27 _ rfl rfl rfl (QOp_move _ _ rfl rfl) ?_
  refine AOps_q 28 _ rfl rfl rfl (QOp_move _ _ rfl rfl) ?_
  refine AOps_q 29 _ rfl rfl rfl (QOp_sub _ _ _ _ _ _ _ rfl rfl rfl) ?_
  obtain ⟨r7, hr7, h⟩ := bindO h
  refine AOps_call [] 30 _ _ _ _ _ _ _ _ _ _ rfl rfl rfl rfl rfl rfl rfl Tryd.call57 rfl (nodupB_sound _ rfl) rfl rfl rfl (spec_l09Common_ac k p0 p1 (w64 (1 - r1)) _ hr7) ?_
  rintro _ _ ⟨rfl, rfl⟩
  refine ⟨(fun _ h => nomatch h), (allc (trivial) (allc (trivial) (fun _ h => nomatch h))), AOps_as 30 (v' := .tup [iV r7.1, iV r7.2]) (H' := []) rfl rfl ?_⟩
  refine AOps_q 25 _ rfl rfl rfl (QOp_move _ _ rfl rfl) ?_
  refine AOps_q 31 _ rfl rfl rfl (QOp_extract _ _ _ _ rfl rfl rfl) ?_
  refine AOps_q 32 _ rfl rfl rfl (QOp_extract _ _ _ _ rfl rfl rfl) ?_
  refine AOps_q 8 _ rfl rfl rfl (QOp_assign _ _ rfl rfl) ?_
  refine AOps_q 9 _ rfl rfl rfl (QOp_assign _ _ rfl rfl) ?_
  refine AOps_nil ?_
  obtain ⟨s10, hss10, hks10⟩ := letS h
  clear h
  refine ACode_seqJ (fun E' H' => Weak 43 G E' H' [(4, bV s10)] []) ?_ ?_
  · have h := hss10
    clear hss10
    refine (ACode_region ?_)
    refine AOps_q 33 _ rfl rfl rfl (QOp_move _ _ rfl rfl) ?_
    refine AOps_q 34 _ rfl rfl rfl (QOp_eql _ _ _ _ _ _ _ rfl rfl rfl) ?_
    refine AOps_q 35 _ rfl rfl rfl (QOp_move _ _ rfl rfl) ?_
    refine AOps_case 35 _ rfl (fun hb8 => ?_) (fun hb8 => ?_)
    · have h := iteT hb8 h
      refine AOps_q 36 _ rfl rfl rfl (QOp_move _ _ rfl rfl) ?_
      refine AOps_q 37 _ rfl rfl rfl (QOp_eql _ _ _ _ _ _ _ rfl rfl rfl) ?_
      refine AOps_q 38 _ rfl rfl rfl (QOp_move _ _ rfl rfl) ?_
      refine AOps_case 38 _ rfl (fun hb9 => ?_) (fun hb9 => ?_)
      · have h := iteT hb9 h
        refine AOps_skip 39 rfl rfl rfl ?_
        refine AOps_skip 40 rfl rfl rfl ?_
        refine AOps_q 41 _ rfl rfl rfl (QOp_pick_t _ _ _ _ rfl rfl rfl) ?_
        refine AOps_q 42 _ rfl rfl rfl (QOp_pick_t _ _ _ _ rfl rfl rfl) ?_
        refine AOps_q 4 _ rfl rfl rfl (QOp_assign _ _ rfl rfl) ?_
        refine AOps_nil ?_
        cases h
        exact Weak_keep 0 hm [4] [] _ _ rfl rfl rfl
      · have h := iteF hb9 h
        refine AOps_q 39 _ rfl rfl rfl (QOp_move _ _ rfl rfl) ?_
        refine AOps_q 40 _ rfl rfl rfl (QOp_neq _ _ _ _ _ _ _ rfl rfl rfl) ?_
        refine AOps_q 41 _ rfl rfl rfl (QOp_pick_f _ _ _ _ rfl rfl rfl) ?_
        refine AOps_q 42 _ rfl rfl rfl (QOp_pick_t _ _ _ _ rfl rfl rfl) ?_
        refine AOps_q 4 _ rfl rfl rfl (QOp_assign _ _ rfl rfl) ?_
        refine AOps_nil ?_
        cases h
        exact Weak_keep 0 hm [4] [] _ _ rfl rfl rfl
    · have h := iteF hb8 h
      refine AOps_skip 36 rfl rfl rfl ?_
      refine AOps_skip 37 rfl rfl rfl ?_
      refine AOps_skip 38 rfl rfl rfl ?_
      refine AOps_skip 39 rfl rfl rfl ?_
      refine AOps_skip 40 rfl rfl rfl ?_
      refine AOps_skip 41 rfl rfl rfl ?_
      refine AOps_q 42 _ rfl rfl rfl (QOp_pick_f _ _ _ _ rfl rfl rfl) ?_
      refine AOps_q 4 _ rfl rfl rfl (QOp_assign _ _ rfl rfl) ?_
      refine AOps_nil ?_
      cases h
      exact Weak_keep 0 hm [4] [] _ _ rfl rfl rfl
  intro E' H' hw
  refine ACode_weak hw ?_
  have h := hks10
  refine ACode_ret ?_
  cases h
  exact ⟨_, _, fun r a w h => ⟨r, h⟩, _, _, [], _, (.cons (ResV_tmp _ _ rfl) .nil), rfl, rfl, rfl, rfl, rfl⟩

-- loop.example/g01362/spec.l09Code
def spec_l09Code (k : Nat) (p0 : Int) (p1 : List Int) : Option (Int) :=
  (spec_l09Lists k p0 p1).bind fun r1 => (if !decide (r1 = 0) then some r1 else (spec_l09Is k p0 p1).bind fun r3 => (if !r3 then some 1 else some 0))
set_option maxRecDepth 100000 in
theorem spec_l09Code_ac (k : Nat) (p0 : Int) (p1 : List Int) (r : Int) (h : spec_l09Code k p0 p1 = some r) : AC Tryd.prog 23 [iV p0, .d (.sl none (intsD p1))] [] (fun res H' => res = [iV r] ∧ H' = []) := by
  refine AC_of_body true Tryd.func23 rfl Tryd.ntmps23 (rvs := [.tmp 4]) rfl rfl (fun G hG => ?_)
  have hm : G.H.length = 0 := by rw [hG]; rfl
  have hz : zeroG G.H = true := by rw [hG]; rfl
  unfold spec_l09Code at h
  refine ACode_seq (ACode_region ?_)
  refine AOps_q 4 _ rfl rfl rfl (QOp_assign _ _ rfl rfl) ?_
  refine AOps_nil ?_
  refine ACode_seq ?_
  refine ACode_seq (ACode_region ?_)
  refine AOps_q 6 _ rfl rfl rfl (QOp_move _ _ rfl rfl) ?_
  refine AOps_q 7 _ rfl rfl rfl (QOp_move _ _ rfl rfl) ?_
  obtain ⟨r1, hr1, h⟩ := bindO h
  refine AOps_call [] 8 _ _ _ _ _ _ _ _ _ _ rfl rfl rfl rfl rfl rfl rfl Tryd.call39 rfl (nodupB_sound _ rfl) rfl rfl rfl (spec_l09Lists_ac k p0 p1 _ hr1) ?_
  rintro _ _ ⟨rfl, rfl⟩
  refine ⟨(fun _ h => nomatch h), (allc (trivial) (fun _ h => nomatch h)), AOps_as 8 (v' := iV r1) (H' := []) rfl rfl ?_⟩
  refine AOps_q 5 _ rfl rfl rfl (QOp_assign _ _ rfl rfl) ?_
  refine AOps_nil ?_
  refine ACode_seq (ACode_region ?_)
  refine AOps_q 9 _ rfl rfl rfl (QOp_move _ _ rfl rfl) ?_
  refine AOps_q 10 _ rfl rfl rfl (QOp_neq _ _ _ _ _ _ _ rfl rfl rfl) ?_
  refine AOps_nil ?_
  refine ACode_cond _ rfl (fun hb2 => ?_) (fun hb2 => ?_)
  · have h := iteT hb2 h
    refine ACode_seq (ACode_region ?_)
    refine AOps_q 11 _ rfl rfl rfl (QOp_move _ _ rfl rfl) ?_
    refine AOps_q 4 _ rfl rfl rfl (QOp_assign _ _ rfl rfl) ?_
    refine AOps_nil ?_
    refine ACode_ret ?_
    cases h
    exact ⟨_, _, fun r a w h => ⟨r, h⟩, _, _, [], _, (.cons (ResV_tmp _ _ rfl) .nil), rfl, rfl, rfl, rfl, rfl⟩
  · have h := iteF hb2 h
    refine ACode_skip ?_
    refine ACode_seq ?_
    refine ACode_seq (ACode_region ?_)
    refine AOps_q 12 _ rfl rfl rfl (QOp_move _ _ rfl rfl) ?_
    refine AOps_q 13 _ rfl rfl rfl (QOp_move _ _ rfl rfl) ?_
    obtain ⟨r3, hr3, h⟩ := bindO h
    refine AOps_call [] 14 _ _ _ _ _ _ _ _ _ _ rfl rfl rfl rfl rfl rfl rfl Tryd.call40 rfl (nodupB_sound _ rfl) rfl rfl rfl (spec_l09Is_ac k p0 p1 _ hr3) ?_
    rintro _ _ ⟨rfl, rfl⟩
    refine ⟨(fun _ h => nomatch h), (allc (trivial) (fun _ h => nomatch h)), AOps_as 14 (v' := bV r3) (H' := []) rfl rfl ?_⟩
    refine AOps_q 15 _ rfl rfl rfl (QOp_not _ _ _ rfl rfl) ?_
    refine AOps_nil ?_
    refine ACode_cond _ rfl (fun hb4 => ?_) (fun hb4 => ?_)
    · have h := iteT hb4 h
      refine ACode_seq (ACode_region ?_)
      refine AOps_q 4 _ rfl rfl rfl (QOp_assign _ _ rfl rfl) ?_
      refine AOps_nil ?_
      refine ACode_ret ?_
      cases h
      exact ⟨_, _, fun r a w h => ⟨r, h⟩, _, _, [], _, (.cons (ResV_tmp _ _ rfl) .nil), rfl, rfl, rfl, rfl, rfl⟩
    · have h := iteF hb4 h
      refine ACode_skip ?_
      refine ACode_seq (ACode_region ?_)
      refine AOps_q 4 _ rfl rfl rfl (QOp_assign _ _ rfl rfl) ?_
      refine AOps_nil ?_
      refine ACode_ret ?_
      cases h
      exact ⟨_, _, fun r a w h => ⟨r, h⟩, _, _, [], _, (.cons (ResV_tmp _ _ rfl) .nil), rfl, rfl, rfl, rfl, rfl⟩

-- loop.example/g01362/spec.l01Dec
def spec_l01Dec_body (self : Int → Option (ByteArray)) (k : Nat) (p0 : Int) : Option (ByteArray) :=
  (if decide (p0 < 0) then (self (w64 (0 - p0))).bind fun r2 => (if (⟨#[45]⟩ : ByteArray).size + r2.size ≤ 1099511627776 then some ((⟨#[45]⟩ : ByteArray) ++ r2) else none) else (if decide (p0 < 10) then some (⟨([toByte (w64 (48 + p0))]).toArray⟩ : ByteArray) else (self (w64 (p0.tdiv 10))).bind fun r5 => (if r5.size + (⟨([toByte (w64 (48 + (p0.tmod 10)))]).toArray⟩ : ByteArray).size ≤ 1099511627776 then some (r5 ++ (⟨([toByte (w64 (48 + (p0.tmod 10)))]).toArray⟩ : ByteArray)) else none)))
def spec_l01Dec : Nat → Int → Option (ByteArray)
  | 0, _ => none
  | k + 1, p0 => spec_l01Dec_body (spec_l01Dec k) k p0
set_option maxRecDepth 100000 in
theorem spec_l01Dec_ac (k : Nat) (p0 : Int) (r : ByteArray) (h : spec_l01Dec k p0 = some r) : AC Tryd.prog 34 [iV p0] [] (fun res H' => res = [.d (.s (.string r))] ∧ H' = []) := by
  induction k generalizing p0 r with
  | zero => simp [spec_l01Dec] at h
  | succ k ih =>
    rw [spec_l01Dec] at h
    obtain ⟨self, hself, hk⟩ : ∃ self : Int → Option (ByteArray), (∀ (p0 : Int) (r : ByteArray), self p0 = some r → AC Tryd.prog 34 [iV p0] [] (fun res H' => res = [.d (.s (.string r))] ∧ H' = [])) ∧ spec_l01Dec k = self := ⟨spec_l01Dec k, fun p0 r h => ih p0 r h, rfl⟩
    rw [hk] at h
    clear ih hk
    refine AC_of_body true Tryd.func34 rfl Tryd.ntmps34 (rvs := [.tmp 2]) rfl rfl (fun G hG => ?_)
    have hm : G.H.length = 0 := by rw [hG]; rfl
    have hz : zeroG G.H = true := by rw [hG]; rfl
    unfold spec_l01Dec_body at h
    refine ACode_seq (ACode_region ?_)
    refine AOps_q 2 _ rfl rfl rfl (QOp_assign _ _ rfl rfl) ?_
    refine AOps_nil ?_
    refine ACode_seq ?_
    refine ACode_seq (ACode_region ?_)
    refine AOps_q 3 _ rfl rfl rfl (QOp_move _ _ rfl rfl) ?_
    refine AOps_q 4 _ rfl rfl rfl (QOp_lss _ _ _ _ _ _ _ rfl rfl rfl) ?_
    refine AOps_nil ?_
    refine ACode_cond _ rfl (fun hb1 => ?_) (fun hb1 => ?_)
    · have h := iteT hb1 h
      refine ACode_seq (ACode_region ?_)
      refine AOps_q 5 _ rfl rfl rfl (QOp_move _ _ rfl rfl) ?_
      refine AOps_q 6 _ rfl rfl rfl (QOp_neg _ _ _ _ rfl rfl) ?_
      obtain ⟨r2, hr2, h⟩ := bindO h
      refine AOps_call [] 7 _ _ _ _ _ _ _ _ _ _ rfl rfl rfl rfl rfl rfl rfl Tryd.call34 rfl (nodupB_sound _ rfl) rfl rfl rfl (hself (w64 (0 - p0)) _ hr2) ?_
      rintro _ _ ⟨rfl, rfl⟩
      refine ⟨(fun _ h => nomatch h), (allc (trivial) (fun _ h => nomatch h)), AOps_as 7 (v' := .d (.s (.string r2))) (H' := []) rfl rfl ?_⟩
      obtain ⟨hc3, h⟩ := guardO h
      refine AOps_q 8 _ rfl rfl rfl (QOp_sadd _ _ _ _ _ _ rfl rfl rfl hc3) ?_
      refine AOps_q 2 _ rfl rfl rfl (QOp_assign _ _ rfl rfl) ?_
      refine AOps_nil ?_
      refine ACode_ret ?_
      cases h
      exact ⟨_, _, fun r a w h => ⟨r, h⟩, _, _, [], _, (.cons (ResV_tmp _ _ rfl) .nil), rfl, rfl, rfl, rfl, rfl⟩
    · have h := iteF hb1 h
      refine ACode_skip ?_
      refine ACode_seq ?_
      refine ACode_seq (ACode_region ?_)
      refine AOps_q 9 _ rfl rfl rfl (QOp_move _ _ rfl rfl) ?_
      refine AOps_q 10 _ rfl rfl rfl (QOp_lss _ _ _ _ _ _ _ rfl rfl rfl) ?_
      refine AOps_nil ?_
      refine ACode_cond _ rfl (fun hb4 => ?_) (fun hb4 => ?_)
      · have h := iteT hb4 h
        refine ACode_seq (ACode_region ?_)
        refine AOps_q 11 _ rfl rfl rfl (QOp_move _ _ rfl rfl) ?_
        refine AOps_q 12 _ rfl rfl rfl (QOp_add _ _ _ _ _ _ _ rfl rfl rfl) ?_
        refine AOps_q 13 _ rfl rfl rfl (QOp_toByte _ _ _ _ _ rfl rfl Tryd.underlying5 rfl) ?_
        refine AOps_buildSlice 14 _ _ _ [_] (bysD ([toByte (w64 (48 + p0))])) _ rfl rfl rfl rfl rfl (by decide) Tryd.underlying61 Tryd.sizeOf5 (zero_of Tryd.typeInfo5 rfl) rfl rfl (bysD_one _) ?_
        refine AOps_q 15 _ rfl rfl rfl (QOp_bstr _ _ _ _ _ _ _ rfl Tryd.underlying61 Tryd.underlying5 Tryd.underlying9 rfl rfl) ?_
        refine AOps_q 2 _ rfl rfl rfl (QOp_assign _ _ rfl rfl) ?_
        refine AOps_nil ?_
        refine ACode_ret ?_
        cases h
        exact ⟨_, _, fun r a w h => ⟨r, h⟩, _, _, [], _, (.cons (ResV_tmp _ _ rfl) .nil), rfl, rfl, rfl, rfl, rfl⟩
      · have h := iteF hb4 h
        refine ACode_skip ?_
        obtain ⟨r5, hr5, h⟩ := bindO h
        obtain ⟨hc6, h⟩ := guardO h
        refine ACode_seq (ACode_reg [(2, .d (.s (.string (r5 ++ (⟨([toByte (w64 (48 + (p0.tmod 10)))]).toArray⟩ : ByteArray)))))] [] ?_ ?_)
        · refine ACode_anyU mixed ?_
          refine AU_u 0 16 _ rfl (by kernel_rfl) rfl rfl rfl (UOp_move _ _ rfl rfl) ?_
          refine AU_u 1 17 _ rfl (by kernel_rfl) rfl rfl rfl (UOp_quo _ _ _ _ _ _ _ (by decide) rfl rfl rfl) ?_
          refine AU_u 3 19 _ rfl (by kernel_rfl) rfl rfl rfl (UOp_move _ _ rfl rfl) ?_
          refine AU_u 4 20 _ rfl (by kernel_rfl) rfl rfl rfl (UOp_rem _ _ _ _ _ _ _ (by decide) rfl rfl rfl) ?_
          refine AU_u 5 21 _ rfl (by kernel_rfl) rfl rfl rfl (UOp_add _ _ _ _ _ _ _ rfl rfl rfl) ?_
          refine AU_u 6 22 _ rfl (by kernel_rfl) rfl rfl rfl (UOp_toByte _ _ _ _ _ rfl rfl Tryd.underlying5 rfl) ?_
          refine AU_all [2, 7] (by kernel_rfl) rfl (allc ?_ (allc ?_ (fun _ h => nomatch h)))
          · refine US_of 2 rfl rfl ?_
            refine AOps_call [] 18 _ _ _ _ _ _ _ _ _ _ rfl rfl rfl rfl rfl rfl rfl Tryd.call34 rfl (nodupB_sound _ rfl) rfl rfl rfl (hself (w64 (p0.tdiv 10)) _ hr5) ?_
            rintro _ _ ⟨rfl, rfl⟩
            refine ⟨(fun _ h => nomatch h), (allc (trivial) (fun _ h => nomatch h)), AOps_as 18 (v' := .d (.s (.string r5))) (H' := []) rfl rfl ?_⟩
            refine AOps_nil ?_
            refine AU_all [7] (by kernel_rfl) rfl (allc ?_ (fun _ h => nomatch h))
            · refine US_of 7 rfl rfl ?_
              refine AOps_buildSlice 23 _ _ _ [_] (bysD ([toByte (w64 (48 + (p0.tmod 10)))])) _ rfl rfl rfl rfl rfl (by decide) Tryd.underlying61 Tryd.sizeOf5 (zero_of Tryd.typeInfo5 rfl) rfl rfl (bysD_one _) ?_
              refine AOps_nil ?_
              refine AU_all [8] (by kernel_rfl) rfl (allc ?_ (fun _ h => nomatch h))
              · refine US_of 8 rfl rfl ?_
                refine AOps_q 24 _ rfl rfl rfl (QOp_bstr _ _ _ _ _ _ _ rfl Tryd.underlying61 Tryd.underlying5 Tryd.underlying9 rfl rfl) ?_
                refine AOps_nil ?_
                refine AU_u 9 25 _ rfl (by kernel_rfl) rfl rfl rfl (UOp_sadd _ _ _ _ _ _ rfl rfl rfl hc6) ?_
                refine AU_u 10 2 _ rfl (by kernel_rfl) rfl rfl rfl (UOp_assign _ _ rfl rfl) ?_
                refine AU_done (by kernel_rfl) ?_
                exact ⟨rfl, Weak_keep 0 hm [2] [] _ _ rfl rfl rfl⟩
          · refine US_of 7 rfl rfl ?_
            refine AOps_buildSlice 23 _ _ _ [_] (bysD ([toByte (w64 (48 + (p0.tmod 10)))])) _ rfl rfl rfl rfl rfl (by decide) Tryd.underlying61 Tryd.sizeOf5 (zero_of Tryd.typeInfo5 rfl) rfl rfl (bysD_one _) ?_
            refine AOps_nil ?_
            refine AU_all [2, 8] (by kernel_rfl) rfl (allc ?_ (allc ?_ (fun _ h => nomatch h)))
            · refine US_of 2 rfl rfl ?_
              refine AOps_call [] 18 _ _ _ _ _ _ _ _ _ _ rfl rfl rfl rfl rfl rfl rfl Tryd.call34 rfl (nodupB_sound _ rfl) rfl rfl rfl (hself (w64 (p0.tdiv 10)) _ hr5) ?_
              rintro _ _ ⟨rfl, rfl⟩
              refine ⟨(fun _ h => nomatch h), (allc (trivial) (fun _ h => nomatch h)), AOps_as 18 (v' := .d (.s (.string r5))) (H' := [.vec 0 (bysD ([toByte (w64 (48 + (p0.tmod 10)))]))]) rfl rfl ?_⟩
              refine AOps_nil ?_
              refine AU_all [8] (by kernel_rfl) rfl (allc ?_ (fun _ h => nomatch h))
              · refine US_of 8 rfl rfl ?_
                refine AOps_q 24 _ rfl rfl rfl (QOp_bstr _ _ _ _ _ _ _ rfl Tryd.underlying61 Tryd.underlying5 Tryd.underlying9 rfl rfl) ?_
                refine AOps_nil ?_
                refine AU_u 9 25 _ rfl (by kernel_rfl) rfl rfl rfl (UOp_sadd _ _ _ _ _ _ rfl rfl rfl hc6) ?_
                refine AU_u 10 2 _ rfl (by kernel_rfl) rfl rfl rfl (UOp_assign _ _ rfl rfl) ?_
                refine AU_done (by kernel_rfl) ?_
                exact ⟨rfl, Weak_keep 0 hm [2] [] _ _ rfl rfl rfl⟩
            · refine US_of 8 rfl rfl ?_
              refine AOps_q 24 _ rfl rfl rfl (QOp_bstr _ _ _ _ _ _ _ rfl Tryd.underlying61 Tryd.underlying5 Tryd.underlying9 rfl rfl) ?_
              refine AOps_nil ?_
              refine AU_all [2] (by kernel_rfl) rfl (allc ?_ (fun _ h => nomatch h))
              · refine US_of 2 rfl rfl ?_
                refine AOps_call [] 18 _ _ _ _ _ _ _ _ _ _ rfl rfl rfl rfl rfl rfl rfl Tryd.call34 rfl (nodupB_sound _ rfl) rfl rfl rfl (hself (w64 (p0.tdiv 10)) _ hr5) ?_
                rintro _ _ ⟨rfl, rfl⟩
                refine ⟨(fun _ h => nomatch h), (allc (trivial) (fun _ h => nomatch h)), AOps_as 18 (v' := .d (.s (.string r5))) (H' := [.vec 0 (bysD ([toByte (w64 (48 + (p0.tmod 10)))]))]) rfl rfl ?_⟩
                refine AOps_nil ?_
                refine AU_u 9 25 _ rfl (by kernel_rfl) rfl rfl rfl (UOp_sadd _ _ _ _ _ _ rfl rfl rfl hc6) ?_
                refine AU_u 10 2 _ rfl (by kernel_rfl) rfl rfl rfl (UOp_assign _ _ rfl rfl) ?_
                refine AU_done (by kernel_rfl) ?_
                exact ⟨rfl, Weak_keep 0 hm [2] [] _ _ rfl rfl rfl⟩
        refine ACode_ret ?_
        cases h
        exact ⟨_, _, fun r a w h => ⟨r, h⟩, _, _, [], _, (.cons (ResV_tmp _ _ rfl) .nil), rfl, rfl, rfl, rfl, rfl⟩

-- loop.example/g01362/spec.l09Text
def spec_l09Text_l0 (p1 : List Int) : Nat → ByteArray → Int → Option (ByteArray)
  | 0, _, _ => none
  | k0 + 1, x3, x4 => (if decide (x4 < (p1.length : Int)) then (if 0 ≤ x4 ∧ x4 < (p1.length : Int) then (if 0 ≤ w64 ((p1.getD x4.toNat 0) + 1) ∧ w64 ((p1.getD x4.toNat 0) + 1) < (([(⟨#[46]⟩ : ByteArray), (⟨#[48]⟩ : ByteArray), (⟨#[49]⟩ : ByteArray)]).length : Int) then (if x3.size + (([(⟨#[46]⟩ : ByteArray), (⟨#[48]⟩ : ByteArray), (⟨#[49]⟩ : ByteArray)]).getD (w64 ((p1.getD x4.toNat 0) + 1)).toNat ByteArray.empty).size ≤ 1099511627776 then spec_l09Text_l0 p1 k0 (x3 ++ (([(⟨#[46]⟩ : ByteArray), (⟨#[48]⟩ : ByteArray), (⟨#[49]⟩ : ByteArray)]).getD (w64 ((p1.getD x4.toNat 0) + 1)).toNat ByteArray.empty)) (w64 (x4 + 1)) else none) else none) else none) else some x3)
def spec_l09Text (k : Nat) (p0 : Int) (p1 : List Int) : Option (ByteArray) :=
  (spec_l01Dec k p0).bind fun r1 => (if r1.size + (⟨#[58]⟩ : ByteArray).size ≤ 1099511627776 then (spec_l09Text_l0 p1 k (r1 ++ (⟨#[58]⟩ : ByteArray)) 0 : Option (ByteArray)).bind fun s9 => some s9 else none)
set_option maxRecDepth 100000 in
theorem spec_l09Text_ac (k : Nat) (p0 : Int) (p1 : List Int) (r : ByteArray) (h : spec_l09Text k p0 p1 = some r) : AC Tryd.prog 24 [iV p0, .d (.sl none (intsD p1))] [] (fun res H' => res = [.d (.s (.string r))] ∧ H' = []) := by
  refine AC_of_body true Tryd.func24 rfl Tryd.ntmps24 (rvs := [.tmp 4]) rfl rfl (fun G hG => ?_)
  have hm : G.H.length = 0 := by rw [hG]; rfl
  have hz : zeroG G.H = true := by rw [hG]; rfl
  unfold spec_l09Text at h
  refine ACode_seq (ACode_region ?_)
  refine AOps_q 4 _ rfl rfl rfl (QOp_assign _ _ rfl rfl) ?_
  refine AOps_nil ?_
  refine ACode_seq (ACode_region ?_)
  refine AOps_q 8 _ rfl rfl rfl (QOp_move _ _ rfl rfl) ?_
  obtain ⟨r1, hr1, h⟩ := bindO h
  refine AOps_call [] 9 _ _ _ _ _ _ _ _ _ _ rfl rfl rfl rfl rfl rfl rfl Tryd.call34 rfl (nodupB_sound _ rfl) rfl rfl rfl (spec_l01Dec_ac k p0 _ hr1) ?_
  rintro _ _ ⟨rfl, rfl⟩
  refine ⟨(fun _ h => nomatch h), (allc (trivial) (fun _ h => nomatch h)), AOps_as 9 (v' := .d (.s (.string r1))) (H' := []) rfl rfl ?_⟩
  obtain ⟨hc2, h⟩ := guardO h
  refine AOps_q 10 _ rfl rfl rfl (QOp_sadd _ _ _ _ _ _ rfl rfl rfl hc2) ?_
  refine AOps_buildSlice 11 _ _ _ [_, _, _] (stsD ([(⟨#[46]⟩ : ByteArray), (⟨#[48]⟩ : ByteArray), (⟨#[49]⟩ : ByteArray)])) _ rfl rfl rfl rfl rfl (by decide) Tryd.underlying60 Tryd.sizeOf9 (zero_of Tryd.typeInfo9 rfl) rfl rfl (stsD_one _) ?_
  refine AOps_q 5 _ rfl rfl rfl (QOp_assign _ _ rfl rfl) ?_
  refine AOps_q 6 _ rfl rfl rfl (QOp_assign _ _ rfl rfl) ?_
  refine AOps_nil ?_
  obtain ⟨s9, hss9, hks9⟩ := bindO h
  clear h
  refine ACode_seqJ (fun E' H' => Weak 29 G E' H' [(5, .d (.s (.string s9)))] []) ?_ ?_
  · have h := hss9
    clear hss9
    refine ACode_seq (ACode_region ?_)
    refine AOps_q 7 _ rfl rfl rfl (QOp_assign _ _ rfl rfl) ?_
    refine AOps_nil ?_
    refine ACode_block ?_
    refine ACode_loopW (fun k0 E H => ∃ (x3 : ByteArray) (x4 : Int), E = [(1, .d (.sl none (intsD p1))), (5, .d (.s (.string x3))), (6, .vec 0 0), (7, iV x4)] ∧ H = [.vec 0 (stsD ([(⟨#[46]⟩ : ByteArray), (⟨#[48]⟩ : ByteArray), (⟨#[49]⟩ : ByteArray)]))] ∧ spec_l09Text_l0 p1 k0 x3 x4 = some s9) k _ _ (Weak_keep 0 hm [1, 5, 6, 7] [0] _ _ rfl rfl rfl) ⟨_, _, rfl, rfl, h⟩ ?_
    clear h
    rintro k0 E H ⟨x3, x4, rfl, rfl, h⟩
    cases k0 with
    | zero => cases (show (none : Option (ByteArray)) = some _ from h)
    | succ k0 =>
      rw [spec_l09Text_l0] at h
      refine ACode_seq ?_
      refine ACode_seq (ACode_region ?_)
      refine AOps_q 12 _ rfl rfl rfl (QOp_move _ _ rfl rfl) ?_
      refine AOps_q 13 _ rfl rfl rfl (QOp_move _ _ rfl rfl) ?_
      refine AOps_q 14 _ rfl rfl rfl (QOp_len_sl _ _ _ _ _ _ _ (intsD_length _) rfl rfl rfl rfl Tryd.underlying30 rfl) ?_
      refine AOps_q 15 _ rfl rfl rfl (QOp_lss _ _ _ _ _ _ _ rfl rfl rfl) ?_
      refine AOps_nil ?_
      refine ACode_cond _ rfl (fun hb5 => ?_) (fun hb5 => ?_)
      · have h := iteT hb5 h
        refine ACode_skip ?_
        refine ACode_seq ?_
        refine ACode_block ?_
        refine (ACode_region ?_)
        refine AOps_q 18 _ rfl rfl rfl (QOp_move _ _ rfl rfl) ?_
        refine AOps_q 19 _ rfl rfl rfl (QOp_move _ _ rfl rfl) ?_
        refine AOps_q 20 _ rfl rfl rfl (QOp_move _ _ rfl rfl) ?_
        refine AOps_q 21 _ rfl rfl rfl (QOp_move _ _ rfl rfl) ?_
        obtain ⟨hc6, h⟩ := guardO h
        refine AOps_q 22 _ rfl rfl rfl (QOp_indexAddr_sl _ _ _ _ _ _ _ _ rfl Tryd.underlying30 Tryd.sizeOf2 hc6.1 (by rw [intsD_length]; exact hc6.2) rfl rfl) ?_
        refine AOps_q 23 _ rfl rfl rfl (QOp_load_pv _ _ _ _ _ rfl Tryd.isAgg2 rfl (intsD_get _ _ 0 (by omega))) ?_
        refine AOps_q 24 _ rfl rfl rfl (QOp_add _ _ _ _ _ _ _ rfl rfl rfl) ?_
        obtain ⟨hc7, h⟩ := guardO h
        refine AOps_q 25 _ rfl rfl rfl (QOp_indexAddr_vec _ _ _ _ _ _ _ _ _ rfl Tryd.underlying60 Tryd.sizeOf9 hc7.1 (by rw [stsD_length]; exact hc7.2) rfl rfl rfl) ?_
        refine AOps_q 26 _ rfl rfl rfl (QOp_load_eptr _ _ _ _ _ _ _ rfl Tryd.isAgg9 rfl rfl (stsD_get _ _ ByteArray.empty (by omega))) ?_
        obtain ⟨hc8, h⟩ := guardO h
        refine AOps_q 27 _ rfl rfl rfl (QOp_sadd _ _ _ _ _ _ rfl rfl rfl hc8) ?_
        refine AOps_q 5 _ rfl rfl rfl (QOp_assign _ _ rfl rfl) ?_
        refine AOps_nil ?_
        refine (ACode_region ?_)
        refine AOps_q 16 _ rfl rfl rfl (QOp_move _ _ rfl rfl) ?_
        refine AOps_q 17 _ rfl rfl rfl (QOp_add _ _ _ _ _ _ _ rfl rfl rfl) ?_
        refine AOps_q 7 _ rfl rfl rfl (QOp_assign _ _ rfl rfl) ?_
        refine AOps_nil ?_
        exact ⟨k0, _, _, Nat.lt_succ_self _, Weak_keep 0 hm [1, 5, 6, 7] [0] _ _ rfl rfl rfl, _, _, rfl, rfl, h⟩
      · have h := iteF hb5 h
        refine ACode_exit ?_
        cases h
        exact Weak_keep 0 hm [5] [] _ _ rfl rfl rfl
  intro E' H' hw
  refine ACode_weak hw ?_
  have h := hks9
  refine ACode_seq (ACode_region ?_)
  refine AOps_q 28 _ rfl rfl rfl (QOp_move _ _ rfl rfl) ?_
  refine AOps_q 4 _ rfl rfl rfl (QOp_assign _ _ rfl rfl) ?_
  refine AOps_nil ?_
  refine ACode_ret ?_
  cases h
  exact ⟨_, _, fun r a w h => ⟨r, h⟩, _, _, [], _, (.cons (ResV_tmp _ _ rfl) .nil), rfl, rfl, rfl, rfl, rfl⟩

-- loop.example/g01362/spec.PositionText
def spec_PositionText (k : Nat) (p0 : Int) (p1 : List Int) : Option (ByteArray × Int) :=
  (spec_l09Code k p0 p1).bind fun r1 => (if !decide (r1 = 0) then some ((⟨#[]⟩ : ByteArray), r1) else (spec_l09Text k p0 p1).bind fun r3 => some (r3, 0))
set_option maxRecDepth 100000 in
theorem spec_PositionText_ac (k : Nat) (p0 : Int) (p1 : List Int) (r : ByteArray × Int) (h : spec_PositionText k p0 p1 = some r) : AC Tryd.prog 9 [iV p0, .d (.sl none (intsD p1))] [] (fun res H' => res = [.d (.s (.string r.1)), iV r.2] ∧ H' = []) := by
  refine AC_of_body true Tryd.func9 rfl Tryd.ntmps9 (rvs := [.tmp 4, .tmp 5]) rfl rfl (fun G hG => ?_)
  have hm : G.H.length = 0 := by rw [hG]; rfl
  have hz : zeroG G.H = true := by rw [hG]; rfl
  unfold spec_PositionText at h
  refine ACode_seq (ACode_region ?_)
  refine AOps_q 4 _ rfl rfl rfl (QOp_assign _ _ rfl rfl) ?_
  refine AOps_q 5 _ rfl rfl rfl (QOp_assign _ _ rfl rfl) ?_
  refine AOps_nil ?_
  refine ACode_seq ?_
  refine ACode_seq (ACode_region ?_)
  refine AOps_q 7 _ rfl rfl rfl (QOp_move _ _ rfl rfl) ?_
  refine AOps_q 8 _ rfl rfl rfl (QOp_move _ _ rfl rfl) ?_
  obtain ⟨r1, hr1, h⟩ := bindO h
  refine AOps_call [] 9 _ _ _ _ _ _ _ _ _ _ rfl rfl rfl rfl rfl rfl rfl Tryd.call23 rfl (nodupB_sound _ rfl) rfl rfl rfl (spec_l09Code_ac k p0 p1 _ hr1) ?_
  rintro _ _ ⟨rfl, rfl⟩
  refine ⟨(fun _ h => nomatch h), (allc (trivial) (fun _ h => nomatch h)), AOps_as 9 (v' := iV r1) (H' := []) rfl rfl ?_⟩
  refine AOps_q 6 _ rfl rfl rfl (QOp_assign _ _ rfl rfl) ?_
  refine AOps_nil ?_
  refine ACode_seq (ACode_region ?_)
  refine AOps_q 10 _ rfl rfl rfl (QOp_move _ _ rfl rfl) ?_
  refine AOps_q 11 _ rfl rfl rfl (QOp_neq _ _ _ _ _ _ _ rfl rfl rfl) ?_
  refine AOps_nil ?_
  refine ACode_cond _ rfl (fun hb2 => ?_) (fun hb2 => ?_)
  · have h := iteT hb2 h
    refine ACode_seq (ACode_region ?_)
    refine AOps_q 12 _ rfl rfl rfl (QOp_move _ _ rfl rfl) ?_
    refine AOps_q 4 _ rfl rfl rfl (QOp_assign _ _ rfl rfl) ?_
    refine AOps_q 5 _ rfl rfl rfl (QOp_assign _ _ rfl rfl) ?_
    refine AOps_nil ?_
    refine ACode_ret ?_
    cases h
    exact ⟨_, _, fun r a w h => ⟨r, h⟩, _, _, [], _, (.cons (ResV_tmp _ _ rfl) (.cons (ResV_tmp _ _ rfl) .nil)), rfl, rfl, rfl, rfl, rfl⟩
  · have h := iteF hb2 h
    refine ACode_skip ?_
    refine ACode_seq (ACode_region ?_)
    refine AOps_q 13 _ rfl rfl rfl (QOp_move _ _ rfl rfl) ?_
    refine AOps_q 14 _ rfl rfl rfl (QOp_move _ _ rfl rfl) ?_
    obtain ⟨r3, hr3, h⟩ := bindO h
    refine AOps_call [] 15 _ _ _ _ _ _ _ _ _ _ rfl rfl rfl rfl rfl rfl rfl Tryd.call24 rfl (nodupB_sound _ rfl) rfl rfl rfl (spec_l09Text_ac k p0 p1 _ hr3) ?_
    rintro _ _ ⟨rfl, rfl⟩
    refine ⟨(fun _ h => nomatch h), (allc (trivial) (fun _ h => nomatch h)), AOps_as 15 (v' := .d (.s (.string r3))) (H' := []) rfl rfl ?_⟩
    refine AOps_q 4 _ rfl rfl rfl (QOp_assign _ _ rfl rfl) ?_
    refine AOps_q 5 _ rfl rfl rfl (QOp_assign _ _ rfl rfl) ?_
    refine AOps_nil ?_
    refine ACode_ret ?_
    cases h
    exact ⟨_, _, fun r a w h => ⟨r, h⟩, _, _, [], _, (.cons (ResV_tmp _ _ rfl) (.cons (ResV_tmp _ _ rfl) .nil)), rfl, rfl, rfl, rfl, rfl⟩

-- loop.example/g01362/impl.in
def impl_in (p0 : Int) (p1 : Int) (p2 : Int) : Bool :=
  letO (if decide (p1 ≤ p0) then decide (p0 ≤ p2) else false) fun (s2 : Bool) => s2
set_option maxRecDepth 100000 in
theorem impl_in_ac (p0 : Int) (p1 : Int) (p2 : Int) : AC Tryd.prog 50 [iV p0, iV p1, iV p2] [] (fun res H' => res = [bV (impl_in p0 p1 p2)] ∧ H' = []) := by
  refine AC_of_body true Tryd.func50 rfl Tryd.ntmps50 (rvs := [.tmp 6]) rfl rfl (fun G hG => ?_)
  have hm : G.H.length = 0 := by rw [hG]; rfl
  have hz : zeroG G.H = true := by rw [hG]; rfl
  obtain ⟨r, h⟩ : ∃ r, impl_in p0 p1 p2 = r := ⟨_, rfl⟩
  rw [h]
  unfold impl_in at h
  refine ACode_seq (ACode_region ?_)
  refine AOps_q 6 _ rfl rfl rfl (QOp_assign _ _ rfl rfl) ?_
  refine AOps_nil ?_
  obtain ⟨s2, hss2, hks2⟩ := letS h
  clear h
  refine ACode_seqJ (fun E' H' => Weak 15 G E' H' [(6, bV s2)] []) ?_ ?_
  · have h := hss2
    clear hss2
    refine (ACode_region ?_)
    refine AOps_q 7 _ rfl rfl rfl (QOp_move _ _ rfl rfl) ?_
    refine AOps_q 8 _ rfl rfl rfl (QOp_move _ _ rfl rfl) ?_
    refine AOps_q 9 _ rfl rfl rfl (QOp_geq _ _ _ _ _ _ _ rfl rfl rfl) ?_
    refine AOps_q 10 _ rfl rfl rfl (QOp_move _ _ rfl rfl) ?_
    refine AOps_case 10 _ rfl (fun hb1 => ?_) (fun hb1 => ?_)
    · have h := iteT hb1 h
      refine AOps_q 11 _ rfl rfl rfl (QOp_move _ _ rfl rfl) ?_
      refine AOps_q 12 _ rfl rfl rfl (QOp_move _ _ rfl rfl) ?_
      refine AOps_q 13 _ rfl rfl rfl (QOp_leq _ _ _ _ _ _ _ rfl rfl rfl) ?_
      refine AOps_q 14 _ rfl rfl rfl (QOp_pick_t _ _ _ _ rfl rfl rfl) ?_
      refine AOps_q 6 _ rfl rfl rfl (QOp_assign _ _ rfl rfl) ?_
      refine AOps_nil ?_
      cases h
      exact Weak_keep 0 hm [6] [] _ _ rfl rfl rfl
    · have h := iteF hb1 h
      refine AOps_skip 11 rfl rfl rfl ?_
      refine AOps_skip 12 rfl rfl rfl ?_
      refine AOps_skip 13 rfl rfl rfl ?_
      refine AOps_q 14 _ rfl rfl rfl (QOp_pick_f _ _ _ _ rfl rfl rfl) ?_
      refine AOps_q 6 _ rfl rfl rfl (QOp_assign _ _ rfl rfl) ?_
      refine AOps_nil ?_
      cases h
      exact Weak_keep 0 hm [6] [] _ _ rfl rfl rfl
  intro E' H' hw
  refine ACode_weak hw ?_
  have h := hks2
  refine ACode_ret ?_
  cases h
  exact ⟨_, _, fun r a w h => ⟨r, h⟩, _, _, [], _, (.cons (ResV_tmp _ _ rfl) .nil), rfl, rfl, rfl, rfl, rfl⟩

-- loop.example/g01362/impl.size[int64]
def impl_size (p0 : List Int) : Int :=
  (p0.length : Int)
set_option maxRecDepth 100000 in
theorem impl_size_ac (p0 : List Int) : AC Tryd.prog 61 [.d (.sl none (intsD p0))] [] (fun res H' => res = [iV (impl_size p0)] ∧ H' = []) := by
  refine AC_of_body true Tryd.func61 rfl Tryd.ntmps61 (rvs := [.tmp 2]) rfl rfl (fun G hG => ?_)
  have hm : G.H.length = 0 := by rw [hG]; rfl
  have hz : zeroG G.H = true := by rw [hG]; rfl
  obtain ⟨r, h⟩ : ∃ r, impl_size p0 = r := ⟨_, rfl⟩
  rw [h]
  unfold impl_size at h
  refine ACode_seq (ACode_region ?_)
  refine AOps_q 2 _ rfl rfl rfl (QOp_assign _ _ rfl rfl) ?_
  refine AOps_nil ?_
  refine ACode_seq (ACode_region ?_)
  refine AOps_q 3 _ rfl rfl rfl (QOp_move _ _ rfl rfl) ?_
  refine AOps_q 4 _ rfl rfl rfl (QOp_len_sl _ _ _ _ _ _ _ (intsD_length _) rfl rfl rfl rfl Tryd.underlying30 rfl) ?_
  refine AOps_q 2 _ rfl rfl rfl (QOp_assign _ _ rfl rfl) ?_
  refine AOps_nil ?_
  refine ACode_ret ?_
  cases h
  exact ⟨_, _, fun r a w h => ⟨r, h⟩, _, _, [], _, (.cons (ResV_tmp _ _ rfl) .nil), rfl, rfl, rfl, rfl, rfl⟩

-- slices.IndexFunc[[]int64,int64]
def slices_IndexFunc_l0 (p0 : List Int) (p1 : Int → Option (Bool)) : Nat → Int → Option (Sum (Unit) (Int))
  | 0, _ => none
  | k0 + 1, x1 => (if decide (x1 < (p0.length : Int)) then (if 0 ≤ x1 ∧ x1 < (p0.length : Int) then (p1 (p0.getD x1.toNat 0)).bind fun r4 => (if r4 then some (.inr x1) else slices_IndexFunc_l0 p0 p1 k0 (w64 (x1 + 1))) else none) else some (.inl ()))
def slices_IndexFunc (k : Nat) (p0 : List Int) (p1 : Int → Option (Bool)) : Option (Int) :=
  (slices_IndexFunc_l0 p0 p1 k 0 : Option (Sum (Unit) (Int))).bind fun os6 => (match os6 with | .inl s6 => some (-1) | .inr rr => some rr)
set_option maxRecDepth 100000 in
theorem slices_IndexFunc_ac (k : Nat) (p0 : List Int) (p1 : Int → Option (Bool)) (g_p1 : FuncId) (c_p1 : List D) (hg_p1 : ∀ args w, (callFunc g_p1 args).run Tryd.prog w = .ok (.enter g_p1 args) w) (hf_p1 : ∀ (a0 : Int) (r : Bool), p1 a0 = some r → AC Tryd.prog g_p1 ([iV a0] ++ c_p1.map AV.d) [] (fun res H' => res = [bV r] ∧ H' = [])) (r : Int) (h : slices_IndexFunc k p0 p1 = some r) : AC Tryd.prog 93 [.d (.sl none (intsD p0)), .d (.clo g_p1 c_p1)] [] (fun res H' => res = [iV r] ∧ H' = []) := by
  refine AC_of_body true Tryd.func93 rfl Tryd.ntmps93 (rvs := [.tmp 4]) rfl rfl (fun G hG => ?_)
  have hm : G.H.length = 0 := by rw [hG]; rfl
  have hz : zeroG G.H = true := by rw [hG]; rfl
  unfold slices_IndexFunc at h
  refine ACode_seq (ACode_region ?_)
  refine AOps_q 4 _ rfl rfl rfl (QOp_assign _ _ rfl rfl) ?_
  refine AOps_nil ?_
  obtain ⟨os6, hss6, hks6⟩ := bindO h
  clear h
  refine ACode_seqJ (fun E' H' => ∃ s6 : Unit, os6 = .inl s6 ∧ Weak 19 G E' H' [] []) ?_ ?_
  · have h := hss6
    clear hss6
    refine ACode_seq (ACode_region ?_)
    refine AOps_q 6 _ rfl rfl rfl (QOp_move _ _ rfl rfl) ?_
    refine AOps_q 7 _ rfl rfl rfl (QOp_len_sl _ _ _ _ _ _ _ (intsD_length _) rfl rfl rfl rfl Tryd.underlying30 rfl) ?_
    refine AOps_q 8 _ rfl rfl rfl (QOp_move _ _ rfl rfl) ?_
    refine AOps_nil ?_
    refine ACode_block ?_
    refine ACode_loopW (fun k0 E H => ∃ (x1 : Int), E = [(0, .d (.sl none (intsD p0))), (1, .d (.clo g_p1 c_p1)), (7, iV (p0.length : Int)), (8, iV x1)] ∧ H = [] ∧ slices_IndexFunc_l0 p0 p1 k0 x1 = some os6) k _ _ (Weak_keep 0 hm [0, 1, 7, 8] [] _ _ rfl rfl rfl) ⟨_, rfl, rfl, h⟩ ?_
    clear h
    rintro k0 E H ⟨x1, rfl, rfl, h⟩
    cases k0 with
    | zero => cases (show (none : Option (Sum (Unit) (Int))) = some _ from h)
    | succ k0 =>
      rw [slices_IndexFunc_l0] at h
      refine ACode_seq (ACode_region ?_)
      refine AOps_q 9 _ rfl rfl rfl (QOp_lss _ _ _ _ _ _ _ rfl rfl rfl) ?_
      refine AOps_nil ?_
      refine ACode_seq ?_
      refine ACode_cond _ rfl (fun hb2 => ?_) (fun hb2 => ?_)
      · have h := iteT hb2 h
        refine ACode_skip ?_
        refine ACode_seq ?_
        refine ACode_block ?_
        refine ACode_seq (ACode_region ?_)
        refine AOps_q 10 _ rfl rfl rfl (QOp_move _ _ rfl rfl) ?_
        refine AOps_q 5 _ rfl rfl rfl (QOp_assign _ _ rfl rfl) ?_
        refine AOps_nil ?_
        refine ACode_seq (ACode_region ?_)
        refine AOps_q 11 _ rfl rfl rfl (QOp_move _ _ rfl rfl) ?_
        refine AOps_q 12 _ rfl rfl rfl (QOp_move _ _ rfl rfl) ?_
        refine AOps_q 13 _ rfl rfl rfl (QOp_move _ _ rfl rfl) ?_
        obtain ⟨hc3, h⟩ := guardO h
        refine AOps_q 14 _ rfl rfl rfl (QOp_indexAddr_sl _ _ _ _ _ _ _ _ rfl Tryd.underlying30 Tryd.sizeOf2 hc3.1 (by rw [intsD_length]; exact hc3.2) rfl rfl) ?_
        refine AOps_q 15 _ rfl rfl rfl (QOp_load_pv _ _ _ _ _ rfl Tryd.isAgg2 rfl (intsD_get _ _ 0 (by omega))) ?_
        obtain ⟨r4, hr4, h⟩ := bindO h
        refine AOps_call [] 16 _ _ _ _ _ _ _ _ _ _ rfl rfl rfl rfl rfl rfl rfl hg_p1 rfl (nodupB_sound _ rfl) rfl rfl (viewA_mapD _) (hf_p1 (p0.getD x1.toNat 0) _ hr4) ?_
        rintro _ _ ⟨rfl, rfl⟩
        refine ⟨(fun _ h => nomatch h), (allc (trivial) (fun _ h => nomatch h)), AOps_as 16 (v' := bV r4) (H' := []) rfl rfl ?_⟩
        refine AOps_nil ?_
        refine ACode_cond _ rfl (fun hb5 => ?_) (fun hb5 => ?_)
        · have h := iteT hb5 h
          refine ACode_seq (ACode_region ?_)
          refine AOps_q 17 _ rfl rfl rfl (QOp_move _ _ rfl rfl) ?_
          refine AOps_q 4 _ rfl rfl rfl (QOp_assign _ _ rfl rfl) ?_
          refine AOps_nil ?_
          refine ACode_ret ?_
          cases h
          have h := hks6
          cases h
          exact ⟨_, _, fun r a w h => ⟨r, h⟩, _, _, [], _, (.cons (ResV_tmp _ _ rfl) .nil), rfl, rfl, rfl, rfl, rfl⟩
        · have h := iteF hb5 h
          refine ACode_skip ?_
          refine (ACode_region ?_)
          refine AOps_q 18 _ rfl rfl rfl (QOp_add _ _ _ _ _ _ _ rfl rfl rfl) ?_
          refine AOps_q 8 _ rfl rfl rfl (QOp_move _ _ rfl rfl) ?_
          refine AOps_nil ?_
          exact ⟨k0, _, _, Nat.lt_succ_self _, Weak_keep 0 hm [0, 1, 7, 8] [] _ _ rfl rfl rfl, _, rfl, rfl, h⟩
      · have h := iteF hb2 h
        refine ACode_exit ?_
        cases h
        exact ⟨_, rfl, Weak_keep 0 hm [] [] _ _ rfl rfl rfl⟩
  rintro E' H' ⟨s6, rfl, hw⟩
  refine ACode_weak hw ?_
  have h := hks6
  refine ACode_seq (ACode_region ?_)
  refine AOps_q 4 _ rfl rfl rfl (QOp_assign _ _ rfl rfl) ?_
  refine AOps_nil ?_
  refine ACode_ret ?_
  cases h
  exact ⟨_, _, fun r a w h => ⟨r, h⟩, _, _, [], _, (.cons (ResV_tmp _ _ rfl) .nil), rfl, rfl, rfl, rfl, rfl⟩

-- slices.ContainsFunc[[]int64,int64]
def slices_ContainsFunc (k : Nat) (p0 : List Int) (p1 : Int → Option (Bool)) : Option (Bool) :=
  (slices_IndexFunc k p0 p1).bind fun r1 => some (decide (0 ≤ r1))
set_option maxRecDepth 100000 in
theorem slices_ContainsFunc_ac (k : Nat) (p0 : List Int) (p1 : Int → Option (Bool)) (g_p1 : FuncId) (c_p1 : List D) (hg_p1 : ∀ args w, (callFunc g_p1 args).run Tryd.prog w = .ok (.enter g_p1 args) w) (hf_p1 : ∀ (a0 : Int) (r : Bool), p1 a0 = some r → AC Tryd.prog g_p1 ([iV a0] ++ c_p1.map AV.d) [] (fun res H' => res = [bV r] ∧ H' = [])) (r : Bool) (h : slices_ContainsFunc k p0 p1 = some r) : AC Tryd.prog 73 [.d (.sl none (intsD p0)), .d (.clo g_p1 c_p1)] [] (fun res H' => res = [bV r] ∧ H' = []) := by
  refine AC_of_body true Tryd.func73 rfl Tryd.ntmps73 (rvs := [.tmp 4]) rfl rfl (fun G hG => ?_)
  have hm : G.H.length = 0 := by rw [hG]; rfl
  have hz : zeroG G.H = true := by rw [hG]; rfl
  unfold slices_ContainsFunc at h
  refine ACode_seq (ACode_region ?_)
  refine AOps_q 4 _ rfl rfl rfl (QOp_assign _ _ rfl rfl) ?_
  refine AOps_nil ?_
  refine ACode_seq (ACode_region ?_)
  refine AOps_q 5 _ rfl rfl rfl (QOp_move _ _ rfl rfl) ?_
  refine AOps_q 6 _ rfl rfl rfl (QOp_move _ _ rfl rfl) ?_
  obtain ⟨r1, hr1, h⟩ := bindO h
  refine AOps_call [] 7 _ _ _ _ _ _ _ _ _ _ rfl rfl rfl rfl rfl rfl rfl Tryd.call93 rfl (nodupB_sound _ rfl) rfl rfl rfl (slices_IndexFunc_ac k p0 p1 g_p1 c_p1 hg_p1 hf_p1 _ hr1) ?_
  rintro _ _ ⟨rfl, rfl⟩
  refine ⟨(fun _ h => nomatch h), (allc (trivial) (fun _ h => nomatch h)), AOps_as 7 (v' := iV r1) (H' := []) rfl rfl ?_⟩
  refine AOps_q 8 _ rfl rfl rfl (QOp_geq _ _ _ _ _ _ _ rfl rfl rfl) ?_
  refine AOps_q 4 _ rfl rfl rfl (QOp_assign _ _ rfl rfl) ?_
  refine AOps_nil ?_
  refine ACode_ret ?_
  cases h
  exact ⟨_, _, fun r a w h => ⟨r, h⟩, _, _, [], _, (.cons (ResV_tmp _ _ rfl) .nil), rfl, rfl, rfl, rfl, rfl⟩

-- loop.example/g01362/impl.areIn$1
def impl_areIn_c1 (p0 : Int) (p1 : Int) (p2 : Int) : Bool :=
  !(impl_in p0 p1 p2)
set_option maxRecDepth 100000 in
theorem impl_areIn_c1_ac (p0 : Int) (p1 : Int) (p2 : Int) : AC Tryd.prog 74 [iV p0, .d (.pv ([iD p1]) 0), .d (.pv ([iD p2]) 0)] [] (fun res H' => res = [bV (impl_areIn_c1 p0 p1 p2)] ∧ H' = []) := by
  refine AC_of_body true Tryd.func74 rfl Tryd.ntmps74 (rvs := [.tmp 4]) rfl rfl (fun G hG => ?_)
  have hm : G.H.length = 0 := by rw [hG]; rfl
  have hz : zeroG G.H = true := by rw [hG]; rfl
  obtain ⟨r, h⟩ : ∃ r, impl_areIn_c1 p0 p1 p2 = r := ⟨_, rfl⟩
  rw [h]
  unfold impl_areIn_c1 at h
  refine ACode_seq (ACode_region ?_)
  refine AOps_q 4 _ rfl rfl rfl (QOp_assign _ _ rfl rfl) ?_
  refine AOps_nil ?_
  refine ACode_seq (ACode_region ?_)
  refine AOps_q 5 _ rfl rfl rfl (QOp_move _ _ rfl rfl) ?_
  refine AOps_q 6 _ rfl rfl rfl (QOp_load_pv _ _ _ _ _ rfl Tryd.isAgg2 rfl rfl) ?_
  refine AOps_q 7 _ rfl rfl rfl (QOp_load_pv _ _ _ _ _ rfl Tryd.isAgg2 rfl rfl) ?_
  refine AOps_call [] 8 _ _ _ _ _ _ _ _ _ _ rfl rfl rfl rfl rfl rfl rfl Tryd.call50 rfl (nodupB_sound _ rfl) rfl rfl rfl (impl_in_ac p0 p1 p2) ?_
  rintro _ _ ⟨rfl, rfl⟩
  refine ⟨(fun _ h => nomatch h), (allc (trivial) (fun _ h => nomatch h)), AOps_as 8 (v' := bV (impl_in p0 p1 p2)) (H' := []) rfl rfl ?_⟩
  refine AOps_q 9 _ rfl rfl rfl (QOp_not _ _ _ rfl rfl) ?_
  refine AOps_q 4 _ rfl rfl rfl (QOp_assign _ _ rfl rfl) ?_
  refine AOps_nil ?_
  refine ACode_ret ?_
  cases h
  exact ⟨_, _, fun r a w h => ⟨r, h⟩, _, _, [], _, (.cons (ResV_tmp _ _ rfl) .nil), rfl, rfl, rfl, rfl, rfl⟩

-- loop.example/g01362/impl.areIn
def impl_areIn (k : Nat) (p0 : List Int) (p1 : Int) (p2 : Int) (p3 : Int) : Option (Bool) :=
  ((if decide ((impl_size p0) = p1) then (slices_ContainsFunc k p0 (fun a0 => some (impl_areIn_c1 a0 p2 p3))).bind fun r3 => some (!r3) else some false) : Option (Bool)).bind fun s4 => some s4
set_option maxRecDepth 100000 in
theorem impl_areIn_ac (k : Nat) (p0 : List Int) (p1 : Int) (p2 : Int) (p3 : Int) (r : Bool) (h : impl_areIn k p0 p1 p2 p3 = some r) : AC Tryd.prog 58 [.d (.sl none (intsD p0)), iV p1, iV p2, iV p3] [] (fun res H' => res = [bV r] ∧ H' = []) := by
  refine AC_of_body true Tryd.func58 rfl Tryd.ntmps58 (rvs := [.tmp 8]) rfl rfl (fun G hG => ?_)
  have hm : G.H.length = 0 := by rw [hG]; rfl
  have hz : zeroG G.H = true := by rw [hG]; rfl
  unfold impl_areIn at h
  refine ACode_seq (ACode_region ?_)
  refine AOps_boxI 6 _ _ (iD p2) _ rfl (fun c hc => by cases hc with | head => rfl | tail _ h => cases h) rfl rfl rfl rfl rfl ?_
  refine AOps_boxI 7 _ _ (iD p3) _ rfl (fun c hc => by cases hc with | head => rfl | tail _ h => cases h) rfl rfl rfl rfl rfl ?_
  refine AOps_q 8 _ rfl rfl rfl (QOp_assign _ _ rfl rfl) ?_
  refine AOps_nil ?_
  obtain ⟨s4, hss4, hks4⟩ := bindO h
  clear h
  refine ACode_seqJ (fun E' H' => Weak 19 G E' H' [(8, bV s4)] []) ?_ ?_
  · have h := hss4
    clear hss4
    refine (ACode_region ?_)
    refine AOps_q 9 _ rfl rfl rfl (QOp_move _ _ rfl rfl) ?_
    refine AOps_call [] 10 _ _ _ _ _ _ _ _ _ _ rfl rfl rfl rfl rfl rfl rfl Tryd.call61 rfl (nodupB_sound _ rfl) rfl rfl rfl (impl_size_ac p0) ?_
    rintro _ _ ⟨rfl, rfl⟩
    refine ⟨(fun _ h => nomatch h), (allc (trivial) (fun _ h => nomatch h)), AOps_as 10 (v' := iV (impl_size p0)) (H' := []) rfl rfl ?_⟩
    refine AOps_q 11 _ rfl rfl rfl (QOp_move _ _ rfl rfl) ?_
    refine AOps_q 12 _ rfl rfl rfl (QOp_eql _ _ _ _ _ _ _ rfl rfl rfl) ?_
    refine AOps_q 13 _ rfl rfl rfl (QOp_move _ _ rfl rfl) ?_
    refine AOps_case 13 _ rfl (fun hb2 => ?_) (fun hb2 => ?_)
    · have h := iteT hb2 h
      refine AOps_q 14 _ rfl rfl rfl (QOp_move _ _ rfl rfl) ?_
      refine AOps_q 15 _ rfl rfl rfl (QOp_makeFuncD _ _ _ _ rfl rfl rfl) ?_
      obtain ⟨r3, hr3, h⟩ := bindO h
      refine AOps_call [] 16 _ _ _ _ _ _ _ _ _ _ rfl rfl rfl rfl rfl rfl rfl Tryd.call73 rfl (nodupB_sound _ rfl) rfl rfl rfl (slices_ContainsFunc_ac k p0 (fun a0 => some (impl_areIn_c1 a0 p2 p3)) 74 ([.pv ([iD p2]) 0, .pv ([iD p3]) 0]) Tryd.call74 (fun a0 r h => by cases h; exact impl_areIn_c1_ac a0 p2 p3) _ hr3) ?_
      rintro _ _ ⟨rfl, rfl⟩
      refine ⟨(fun _ h => nomatch h), (allc (trivial) (fun _ h => nomatch h)), AOps_as 16 (v' := bV r3) (H' := []) rfl rfl ?_⟩
      refine AOps_q 17 _ rfl rfl rfl (QOp_not _ _ _ rfl rfl) ?_
      refine AOps_q 18 _ rfl rfl rfl (QOp_pick_t _ _ _ _ rfl rfl rfl) ?_
      refine AOps_q 8 _ rfl rfl rfl (QOp_assign _ _ rfl rfl) ?_
      refine AOps_nil ?_
      cases h
      exact Weak_keep 0 hm [8] [] _ _ rfl rfl rfl
    · have h := iteF hb2 h
      refine AOps_skip 14 rfl rfl rfl ?_
      refine AOps_skip 15 rfl rfl rfl ?_
      refine AOps_skip 16 rfl rfl rfl ?_
      refine AOps_skip 17 rfl rfl rfl ?_
      refine AOps_q 18 _ rfl rfl rfl (QOp_pick_f _ _ _ _ rfl rfl rfl) ?_
      refine AOps_q 8 _ rfl rfl rfl (QOp_assign _ _ rfl rfl) ?_
      refine AOps_nil ?_
      cases h
      exact Weak_keep 0 hm [8] [] _ _ rfl rfl rfl
  intro E' H' hw
  refine ACode_weak hw ?_
  have h := hks4
  refine ACode_ret ?_
  cases h
  exact ⟨_, _, fun r a w h => ⟨r, h⟩, _, _, [], _, (.cons (ResV_tmp _ _ rfl) .nil), rfl, rfl, rfl, rfl, rfl⟩

-- (loop.example/g01362/impl.position).isShape
def impl_position_isShape (k : Nat) (p0 : Pos) : Option (Bool) :=
  ((if (impl_in p0.n 1 5) then (impl_areIn k p0.l (w64 ((w64 (p0.n * (w64 (p0.n - 1)))).tdiv 2)) (-1) 1).bind fun r3 => some r3 else some false) : Option (Bool)).bind fun s4 => some s4
set_option maxRecDepth 100000 in
theorem impl_position_isShape_ac (k : Nat) (p0 : Pos) (r : Bool) (h : impl_position_isShape k p0 = some r) : AC Tryd.prog 41 [.d (.agg (posD p0))] [] (fun res H' => res = [bV r] ∧ H' = []) := by
  refine AC_of_body true Tryd.func41 rfl Tryd.ntmps41 (rvs := [.tmp 2]) rfl rfl (fun G hG => ?_)
  have hm : G.H.length = 0 := by rw [hG]; rfl
  have hz : zeroG G.H = true := by rw [hG]; rfl
  unfold impl_position_isShape at h
  refine ACode_seq (ACode_region ?_)
  refine AOps_boxI 1 _ _ (.agg (posD p0)) (posD p0) rfl (posD_one _) rfl rfl rfl rfl rfl ?_
  refine AOps_q 2 _ rfl rfl rfl (QOp_assign _ _ rfl rfl) ?_
  refine AOps_nil ?_
  obtain ⟨s4, hss4, hks4⟩ := bindO h
  clear h
  refine ACode_seqJ (fun E' H' => Weak 18 G E' H' [(2, bV s4)] []) ?_ ?_
  · have h := hss4
    clear hss4
    refine (ACode_region ?_)
    refine AOps_q 3 _ rfl rfl rfl (QOp_fieldAddr_pv _ _ _ _ _ 0 _ _ rfl Tryd.underlying48 rfl _ Tryd.sizeOf2 rfl rfl) ?_
    refine AOps_q 4 _ rfl rfl rfl (QOp_load_pv _ _ _ _ _ rfl Tryd.isAgg2 rfl rfl) ?_
    refine AOps_call [] 5 _ _ _ _ _ _ _ _ _ _ rfl rfl rfl rfl rfl rfl rfl Tryd.call50 rfl (nodupB_sound _ rfl) rfl rfl rfl (impl_in_ac p0.n 1 5) ?_
    rintro _ _ ⟨rfl, rfl⟩
    refine ⟨(fun _ h => nomatch h), (allc (trivial) (fun _ h => nomatch h)), AOps_as 5 (v' := bV (impl_in p0.n 1 5)) (H' := []) rfl rfl ?_⟩
    refine AOps_q 6 _ rfl rfl rfl (QOp_move _ _ rfl rfl) ?_
    refine AOps_case 6 _ rfl (fun hb2 => ?_) (fun hb2 => ?_)
    · have h := iteT hb2 h
      refine AOps_q 7 _ rfl rfl rfl (QOp_fieldAddr_pv _ _ _ _ _ 1 _ _ rfl Tryd.underlying48 rfl _ Tryd.sizeOf30 rfl rfl) ?_
      refine AOps_q 8 _ rfl rfl rfl (QOp_load_pv _ _ _ _ _ rfl Tryd.isAgg30 rfl rfl) ?_
      refine AOps_q 9 _ rfl rfl rfl (QOp_fieldAddr_pv _ _ _ _ _ 0 _ _ rfl Tryd.underlying48 rfl _ Tryd.sizeOf2 rfl rfl) ?_
      refine AOps_q 10 _ rfl rfl rfl (QOp_load_pv _ _ _ _ _ rfl Tryd.isAgg2 rfl rfl) ?_
      refine AOps_q 11 _ rfl rfl rfl (QOp_fieldAddr_pv _ _ _ _ _ 0 _ _ rfl Tryd.underlying48 rfl _ Tryd.sizeOf2 rfl rfl) ?_
      refine AOps_q 12 _ rfl rfl rfl (QOp_load_pv _ _ _ _ _ rfl Tryd.isAgg2 rfl rfl) ?_
      refine AOps_q 13 _ rfl rfl rfl (QOp_sub _ _ _ _ _ _ _ rfl rfl rfl) ?_
      refine AOps_q 14 _ rfl rfl rfl (QOp_mul _ _ _ _ _ _ _ rfl rfl rfl) ?_
      refine AOps_q 15 _ rfl rfl rfl (QOp_quo _ _ _ _ _ _ _ (by decide) rfl rfl rfl) ?_
      obtain ⟨r3, hr3, h⟩ := bindO h
      refine AOps_call [] 16 _ _ _ _ _ _ _ _ _ _ rfl rfl rfl rfl rfl rfl rfl Tryd.call58 rfl (nodupB_sound _ rfl) rfl rfl rfl (impl_areIn_ac k p0.l (w64 ((w64 (p0.n * (w64 (p0.n - 1)))).tdiv 2)) (-1) 1 _ hr3) ?_
      rintro _ _ ⟨rfl, rfl⟩
      refine ⟨(fun _ h => nomatch h), (allc (trivial) (fun _ h => nomatch h)), AOps_as 16 (v' := bV r3) (H' := []) rfl rfl ?_⟩
      refine AOps_q 17 _ rfl rfl rfl (QOp_pick_t _ _ _ _ rfl rfl rfl) ?_
      refine AOps_q 2 _ rfl rfl rfl (QOp_assign _ _ rfl rfl) ?_
      refine AOps_nil ?_
      cases h
      exact Weak_keep 0 hm [2] [] _ _ rfl rfl rfl
    · have h := iteF hb2 h
      refine AOps_skip 7 rfl rfl rfl ?_
      refine AOps_skip 8 rfl rfl rfl ?_
      refine AOps_skip 9 rfl rfl rfl ?_
      refine AOps_skip 10 rfl rfl rfl ?_
      refine AOps_skip 11 rfl rfl rfl ?_
      refine AOps_skip 12 rfl rfl rfl ?_
      refine AOps_skip 13 rfl rfl rfl ?_
      refine AOps_skip 14 rfl rfl rfl ?_
      refine AOps_skip 15 rfl rfl rfl ?_
      refine AOps_skip 16 rfl rfl rfl ?_
      refine AOps_q 17 _ rfl rfl rfl (QOp_pick_f _ _ _ _ rfl rfl rfl) ?_
      refine AOps_q 2 _ rfl rfl rfl (QOp_assign _ _ rfl rfl) ?_
      refine AOps_nil ?_
      cases h
      exact Weak_keep 0 hm [2] [] _ _ rfl rfl rfl
  intro E' H' hw
  refine ACode_weak hw ?_
  have h := hks4
  refine ACode_ret ?_
  cases h
  exact ⟨_, _, fun r a w h => ⟨r, h⟩, _, _, [], _, (.cons (ResV_tmp _ _ rfl) .nil), rfl, rfl, rfl, rfl, rfl⟩

-- (loop.example/g01362/impl.position).many
def impl_position_many_l0 (p0 : Pos) (p1 : Int) : Nat → Int → Int → Option (Int)
  | 0, _, _ => none
  | k0 + 1, x1, x2 => (if decide (x2 < (p0.l.length : Int)) then ((if 0 ≤ x2 ∧ x2 < (p0.l.length : Int) then (if decide ((p0.l.getD x2.toNat 0) = p1) then some (w64 (x1 + 1)) else some x1) else none) : Option (Int)).bind fun s6 => impl_position_many_l0 p0 p1 k0 s6 (w64 (x2 + 1)) else some x1)
def impl_position_many (k : Nat) (p0 : Pos) (p1 : Int) : Option (Int) :=
  (impl_position_many_l0 p0 p1 k 0 0 : Option (Int)).bind fun s7 => some s7
set_option maxRecDepth 100000 in
theorem impl_position_many_ac (k : Nat) (p0 : Pos) (p1 : Int) (r : Int) (h : impl_position_many k p0 p1 = some r) : AC Tryd.prog 75 [.d (.agg (posD p0)), iV p1] [] (fun res H' => res = [iV r] ∧ H' = []) := by
  refine AC_of_body true Tryd.func75 rfl Tryd.ntmps75 (rvs := [.tmp 4]) rfl rfl (fun G hG => ?_)
  have hm : G.H.length = 0 := by rw [hG]; rfl
  have hz : zeroG G.H = true := by rw [hG]; rfl
  unfold impl_position_many at h
  refine ACode_seq (ACode_region ?_)
  refine AOps_boxI 2 _ _ (.agg (posD p0)) (posD p0) rfl (posD_one _) rfl rfl rfl rfl rfl ?_
  refine AOps_q 4 _ rfl rfl rfl (QOp_assign _ _ rfl rfl) ?_
  refine AOps_nil ?_
  refine ACode_seq (ACode_region ?_)
  refine AOps_q 5 _ rfl rfl rfl (QOp_assign _ _ rfl rfl) ?_
  refine AOps_nil ?_
  obtain ⟨s7, hss7, hks7⟩ := bindO h
  clear h
  refine ACode_seqJ (fun E' H' => Weak 22 G E' H' [(5, iV s7)] []) ?_ ?_
  · have h := hss7
    clear hss7
    refine ACode_seq (ACode_region ?_)
    refine AOps_q 8 _ rfl rfl rfl (QOp_fieldAddr_pv _ _ _ _ _ 1 _ _ rfl Tryd.underlying48 rfl _ Tryd.sizeOf30 rfl rfl) ?_
    refine AOps_q 9 _ rfl rfl rfl (QOp_load_pv _ _ _ _ _ rfl Tryd.isAgg30 rfl rfl) ?_
    refine AOps_q 10 _ rfl rfl rfl (QOp_len_sl _ _ _ _ _ _ _ (intsD_length _) rfl rfl rfl rfl Tryd.underlying30 rfl) ?_
    refine AOps_q 11 _ rfl rfl rfl (QOp_move _ _ rfl rfl) ?_
    refine AOps_nil ?_
    refine ACode_block ?_
    refine ACode_loopW (fun k0 E H => ∃ (x1 : Int) (x2 : Int), E = [(1, iV p1), (5, iV x1), (9, .d (.sl none (intsD p0.l))), (10, iV (p0.l.length : Int)), (11, iV x2)] ∧ H = [] ∧ impl_position_many_l0 p0 p1 k0 x1 x2 = some s7) k _ _ (Weak_keep 0 hm [1, 5, 9, 10, 11] [] _ _ rfl rfl rfl) ⟨_, _, rfl, rfl, h⟩ ?_
    clear h
    rintro k0 E H ⟨x1, x2, rfl, rfl, h⟩
    cases k0 with
    | zero => cases (show (none : Option (Int)) = some _ from h)
    | succ k0 =>
      rw [impl_position_many_l0] at h
      refine ACode_seq (ACode_region ?_)
      refine AOps_q 12 _ rfl rfl rfl (QOp_lss _ _ _ _ _ _ _ rfl rfl rfl) ?_
      refine AOps_nil ?_
      refine ACode_seq ?_
      refine ACode_cond _ rfl (fun hb3 => ?_) (fun hb3 => ?_)
      · have h := iteT hb3 h
        refine ACode_skip ?_
        obtain ⟨s6, hss6, hks6⟩ := bindO h
        clear h
        refine ACode_seqJ (fun E' H' => Weak 22 G E' H' [(1, iV p1), (5, iV s6), (9, .d (.sl none (intsD p0.l))), (10, iV (p0.l.length : Int)), (11, iV x2)] []) ?_ ?_
        · have h := hss6
          clear hss6
          refine ACode_block ?_
          refine ACode_seq (ACode_region ?_)
          obtain ⟨hc4, h⟩ := guardO h
          refine AOps_q 13 _ rfl rfl rfl (QOp_indexAddr_sl _ _ _ _ _ _ _ _ rfl Tryd.underlying30 Tryd.sizeOf2 hc4.1 (by rw [intsD_length]; exact hc4.2) rfl rfl) ?_
          refine AOps_q 14 _ rfl rfl rfl (QOp_load_pv _ _ _ _ _ rfl Tryd.isAgg2 rfl (intsD_get _ _ 0 (by omega))) ?_
          refine AOps_q 7 _ rfl rfl rfl (QOp_assign _ _ rfl rfl) ?_
          refine AOps_nil ?_
          refine ACode_seq (ACode_region ?_)
          refine AOps_q 15 _ rfl rfl rfl (QOp_move _ _ rfl rfl) ?_
          refine AOps_q 16 _ rfl rfl rfl (QOp_move _ _ rfl rfl) ?_
          refine AOps_q 17 _ rfl rfl rfl (QOp_eql _ _ _ _ _ _ _ rfl rfl rfl) ?_
          refine AOps_nil ?_
          refine ACode_cond _ rfl (fun hb5 => ?_) (fun hb5 => ?_)
          · have h := iteT hb5 h
            refine (ACode_region ?_)
            refine AOps_q 18 _ rfl rfl rfl (QOp_move _ _ rfl rfl) ?_
            refine AOps_q 19 _ rfl rfl rfl (QOp_add _ _ _ _ _ _ _ rfl rfl rfl) ?_
            refine AOps_q 5 _ rfl rfl rfl (QOp_assign _ _ rfl rfl) ?_
            refine AOps_nil ?_
            cases h
            exact Weak_keep 0 hm [1, 5, 9, 10, 11] [] _ _ rfl rfl rfl
          · have h := iteF hb5 h
            refine ACode_skip ?_
            cases h
            exact Weak_keep 0 hm [1, 5, 9, 10, 11] [] _ _ rfl rfl rfl
        intro E' H' hw
        refine ACode_weak hw ?_
        have h := hks6
        refine (ACode_region ?_)
        refine AOps_q 20 _ rfl rfl rfl (QOp_add _ _ _ _ _ _ _ rfl rfl rfl) ?_
        refine AOps_q 11 _ rfl rfl rfl (QOp_move _ _ rfl rfl) ?_
        refine AOps_nil ?_
        exact ⟨k0, _, _, Nat.lt_succ_self _, Weak_keep 0 hm [1, 5, 9, 10, 11] [] _ _ rfl rfl rfl, _, _, rfl, rfl, h⟩
      · have h := iteF hb3 h
        refine ACode_exit ?_
        cases h
        exact Weak_keep 0 hm [5] [] _ _ rfl rfl rfl
  intro E' H' hw
  refine ACode_weak hw ?_
  have h := hks7
  refine ACode_seq (ACode_region ?_)
  refine AOps_q 21 _ rfl rfl rfl (QOp_move _ _ rfl rfl) ?_
  refine AOps_q 4 _ rfl rfl rfl (QOp_assign _ _ rfl rfl) ?_
  refine AOps_nil ?_
  refine ACode_ret ?_
  cases h
  exact ⟨_, _, fun r a w h => ⟨r, h⟩, _, _, [], _, (.cons (ResV_tmp _ _ rfl) .nil), rfl, rfl, rfl, rfl, rfl⟩

-- (loop.example/g01362/impl.position).mover
def impl_position_mover (k : Nat) (p0 : Pos) : Option (Int) :=
  (impl_position_many k p0 0).bind fun r1 => (impl_position_many k p0 1).bind fun r2 => some (w64 (r1 - r2))
set_option maxRecDepth 100000 in
theorem impl_position_mover_ac (k : Nat) (p0 : Pos) (r : Int) (h : impl_position_mover k p0 = some r) : AC Tryd.prog 59 [.d (.agg (posD p0))] [] (fun res H' => res = [iV r] ∧ H' = []) := by
  refine AC_of_body true Tryd.func59 rfl Tryd.ntmps59 (rvs := [.tmp 2]) rfl rfl (fun G hG => ?_)
  have hm : G.H.length = 0 := by rw [hG]; rfl
  have hz : zeroG G.H = true := by rw [hG]; rfl
  unfold impl_position_mover at h
  refine ACode_seq (ACode_region ?_)
  refine AOps_boxI 1 _ _ (.agg (posD p0)) (posD p0) rfl (posD_one _) rfl rfl rfl rfl rfl ?_
  refine AOps_q 2 _ rfl rfl rfl (QOp_assign _ _ rfl rfl) ?_
  refine AOps_nil ?_
  refine ACode_seq (ACode_quiet mixed (by kernel_rfl) ?_)
  refine AQ_q 3 _ rfl rfl rfl (QOp_loadN_pv _ _ _ _ _ _ rfl Tryd.isAgg48 Tryd.sizeOf48 rfl (posD_all _) (posD_length _)) ?_
  obtain ⟨r1, hr1, h⟩ := bindO h
  refine AQ_call 4 _ _ _ _ _ _ _ _ _ rfl rfl rfl rfl rfl rfl rfl Tryd.call75 rfl rfl rfl (impl_position_many_ac k p0 0 _ hr1) ?_
  refine AQ_q 5 _ rfl rfl rfl (QOp_loadN_pv _ _ _ _ _ _ rfl Tryd.isAgg48 Tryd.sizeOf48 rfl (posD_all _) (posD_length _)) ?_
  obtain ⟨r2, hr2, h⟩ := bindO h
  refine AQ_call 6 _ _ _ _ _ _ _ _ _ rfl rfl rfl rfl rfl rfl rfl Tryd.call75 rfl rfl rfl (impl_position_many_ac k p0 1 _ hr2) ?_
  refine AQ_q 7 _ rfl rfl rfl (QOp_sub _ _ _ _ _ _ _ rfl rfl rfl) ?_
  refine AQ_q 2 _ rfl rfl rfl (QOp_assign _ _ rfl rfl) ?_
  refine AQ_nil ?_
  refine ACode_ret ?_
  cases h
  exact ⟨_, _, fun r a w h => ⟨r, h⟩, _, _, [], _, (.cons (ResV_tmp _ _ rfl) .nil), rfl, rfl, rfl, rfl, rfl⟩

-- loop.example/g01362/impl.number
def impl_number (p0 : Int) (p1 : Int) : Int :=
  w64 ((w64 ((w64 ((if p0 < p1 then p1 else p0) * (w64 ((if p0 < p1 then p1 else p0) - 1)))).tdiv 2)) + (if p1 < p0 then p1 else p0))
set_option maxRecDepth 100000 in
theorem impl_number_ac (p0 : Int) (p1 : Int) : AC Tryd.prog 52 [iV p0, iV p1] [] (fun res H' => res = [iV (impl_number p0 p1)] ∧ H' = []) := by
  refine AC_of_body true Tryd.func52 rfl Tryd.ntmps52 (rvs := [.tmp 4]) rfl rfl (fun G hG => ?_)
  have hm : G.H.length = 0 := by rw [hG]; rfl
  have hz : zeroG G.H = true := by rw [hG]; rfl
  obtain ⟨r, h⟩ : ∃ r, impl_number p0 p1 = r := ⟨_, rfl⟩
  rw [h]
  unfold impl_number at h
  refine ACode_seq (ACode_region ?_)
  refine AOps_q 4 _ rfl rfl rfl (QOp_assign _ _ rfl rfl) ?_
  refine AOps_nil ?_
  refine ACode_seq (ACode_region ?_)
  refine AOps_q 5 _ rfl rfl rfl (QOp_move _ _ rfl rfl) ?_
  refine AOps_q 6 _ rfl rfl rfl (QOp_move _ _ rfl rfl) ?_
  refine AOps_q 7 _ rfl rfl rfl (QOp_min _ _ _ _ _ _ rfl rfl rfl rfl rfl) ?_
  refine AOps_q 8 _ rfl rfl rfl (QOp_move _ _ rfl rfl) ?_
  refine AOps_q 9 _ rfl rfl rfl (QOp_move _ _ rfl rfl) ?_
  refine AOps_q 10 _ rfl rfl rfl (QOp_max _ _ _ _ _ _ rfl rfl rfl rfl rfl) ?_
  refine AOps_q 0 _ rfl rfl rfl (QOp_assign _ _ rfl rfl) ?_
  refine AOps_q 1 _ rfl rfl rfl (QOp_assign _ _ rfl rfl) ?_
  refine AOps_nil ?_
  refine ACode_seq (ACode_region ?_)
  refine AOps_q 11 _ rfl rfl rfl (QOp_move _ _ rfl rfl) ?_
  refine AOps_q 12 _ rfl rfl rfl (QOp_move _ _ rfl rfl) ?_
  refine AOps_q 13 _ rfl rfl rfl (QOp_sub _ _ _ _ _ _ _ rfl rfl rfl) ?_
  refine AOps_q 14 _ rfl rfl rfl (QOp_mul _ _ _ _ _ _ _ rfl rfl rfl) ?_
  refine AOps_q 15 _ rfl rfl rfl (QOp_quo _ _ _ _ _ _ _ (by decide) rfl rfl rfl) ?_
  refine AOps_q 16 _ rfl rfl rfl (QOp_move _ _ rfl rfl) ?_
  refine AOps_q 17 _ rfl rfl rfl (QOp_add _ _ _ _ _ _ _ rfl rfl rfl) ?_
  refine AOps_q 4 _ rfl rfl rfl (QOp_assign _ _ rfl rfl) ?_
  refine AOps_nil ?_
  refine ACode_ret ?_
  cases h
  exact ⟨_, _, fun r a w h => ⟨r, h⟩, _, _, [], _, (.cons (ResV_tmp _ _ rfl) .nil), rfl, rfl, rfl, rfl, rfl⟩

-- (loop.example/g01362/impl.position).triangles$1
def impl_position_triangles_c1 (p0 : Int) (p1 : Pos) (p2 : Int) : Option (Bool) :=
  (if 0 ≤ p0 ∧ p0 < (p1.l.length : Int) then some (!decide ((p1.l.getD p0.toNat 0) = p2)) else none)
set_option maxRecDepth 100000 in
theorem impl_position_triangles_c1_ac (p0 : Int) (p1 : Pos) (p2 : Int) (r : Bool) (h : impl_position_triangles_c1 p0 p1 p2 = some r) : AC Tryd.prog 76 [iV p0, .d (.pv (posD p1) 0), .d (.pv ([iD p2]) 0)] [] (fun res H' => res = [bV r] ∧ H' = []) := by
  refine AC_of_body true Tryd.func76 rfl Tryd.ntmps76 (rvs := [.tmp 4]) rfl rfl (fun G hG => ?_)
  have hm : G.H.length = 0 := by rw [hG]; rfl
  have hz : zeroG G.H = true := by rw [hG]; rfl
  unfold impl_position_triangles_c1 at h
  refine ACode_seq (ACode_region ?_)
  refine AOps_q 4 _ rfl rfl rfl (QOp_assign _ _ rfl rfl) ?_
  refine AOps_nil ?_
  refine ACode_seq (ACode_quiet mixed (by kernel_rfl) ?_)
  refine AQ_q 5 _ rfl rfl rfl (QOp_fieldAddr_pv _ _ _ _ _ 1 _ _ rfl Tryd.underlying48 rfl _ Tryd.sizeOf30 rfl rfl) ?_
  refine AQ_q 6 _ rfl rfl rfl (QOp_load_pv _ _ _ _ _ rfl Tryd.isAgg30 rfl rfl) ?_
  refine AQ_q 7 _ rfl rfl rfl (QOp_move _ _ rfl rfl) ?_
  obtain ⟨hc1, h⟩ := guardO h
  refine AQ_q 8 _ rfl rfl rfl (QOp_indexAddr_sl _ _ _ _ _ _ _ _ rfl Tryd.underlying30 Tryd.sizeOf2 hc1.1 (by rw [intsD_length]; exact hc1.2) rfl rfl) ?_
  refine AQ_q 9 _ rfl rfl rfl (QOp_load_pv _ _ _ _ _ rfl Tryd.isAgg2 rfl (intsD_get _ _ 0 (by omega))) ?_
  refine AQ_q 10 _ rfl rfl rfl (QOp_load_pv _ _ _ _ _ rfl Tryd.isAgg2 rfl rfl) ?_
  refine AQ_q 11 _ rfl rfl rfl (QOp_neq _ _ _ _ _ _ _ rfl rfl rfl) ?_
  refine AQ_q 4 _ rfl rfl rfl (QOp_assign _ _ rfl rfl) ?_
  refine AQ_nil ?_
  refine ACode_ret ?_
  cases h
  exact ⟨_, _, fun r a w h => ⟨r, h⟩, _, _, [], _, (.cons (ResV_tmp _ _ rfl) .nil), rfl, rfl, rfl, rfl, rfl⟩

-- (loop.example/g01362/impl.position).triangles
def impl_position_triangles_l2 (k : Nat) (p0 : Pos) (p1 : Int) (x1 : Int) (x4 : Int) : Nat → Int → (List (List Int)) → Option (List (List Int))
  | 0, _, _ => none
  | k2 + 1, x7, x8 => (if decide (x7 < x4) then ((slices_ContainsFunc k ([(impl_number x7 x4), (impl_number x7 x1), (impl_number x4 x1)]) (fun a0 => impl_position_triangles_c1 a0 p0 p1)).bind fun r13 => (if !r13 then (if x8.length + ([[(impl_number x7 x4), (impl_number x7 x1), (impl_number x4 x1)]]).length ≤ 1099511627776 then some (x8 ++ ([[(impl_number x7 x4), (impl_number x7 x1), (impl_number x4 x1)]])) else none) else some x8) : Option (List (List Int))).bind fun s16 => impl_position_triangles_l2 k p0 p1 x1 x4 k2 (w64 (x7 + 1)) s16 else some x8)
def impl_position_triangles_l1 (k : Nat) (p0 : Pos) (p1 : Int) (x1 : Int) : Nat → Int → (List (List Int)) → Option (List (List Int))
  | 0, _, _ => none
  | k1 + 1, x4, x5 => (if decide (x4 < x1) then (impl_position_triangles_l2 k p0 p1 x1 x4 k 0 x5 : Option (List (List Int))).bind fun s17 => impl_position_triangles_l1 k p0 p1 x1 k1 (w64 (x4 + 1)) s17 else some x5)
def impl_position_triangles_l0 (k : Nat) (p0 : Pos) (p1 : Int) : Nat → Int → (List (List Int)) → Option (List (List Int))
  | 0, _, _ => none
  | k0 + 1, x1, x2 => (if decide (x1 < p0.n) then (impl_position_triangles_l1 k p0 p1 x1 k 0 x2 : Option (List (List Int))).bind fun s18 => impl_position_triangles_l0 k p0 p1 k0 (w64 (x1 + 1)) s18 else some x2)
def impl_position_triangles (k : Nat) (p0 : Pos) (p1 : Int) : Option (List (List Int)) :=
  (impl_position_triangles_l0 k p0 p1 k 0 ([] : List (List Int)) : Option (List (List Int))).bind fun s19 => some s19
set_option maxRecDepth 100000 in
theorem impl_position_triangles_ac (k : Nat) (p0 : Pos) (p1 : Int) (r : List (List Int)) (h : impl_position_triangles k p0 p1 = some r) : AC Tryd.prog 60 [.d (.agg (posD p0)), iV p1] [] (fun res H' => res = [.vec 0 0] ∧ H' = [.vec 0 (rowsD r)]) := by
  refine AC_of_body true Tryd.func60 rfl Tryd.ntmps60 (rvs := [.tmp 4]) rfl rfl (fun G hG => ?_)
  have hm : G.H.length = 0 := by rw [hG]; rfl
  have hz : zeroG G.H = true := by rw [hG]; rfl
  unfold impl_position_triangles at h
  refine ACode_seq (ACode_region ?_)
  refine AOps_boxI 2 _ _ (.agg (posD p0)) (posD p0) rfl (posD_one _) rfl rfl rfl rfl rfl ?_
  refine AOps_boxI 3 _ _ (iD p1) _ rfl (fun c hc => by cases hc with | head => rfl | tail _ h => cases h) rfl rfl rfl rfl rfl ?_
  refine AOps_q 4 _ rfl rfl rfl (QOp_assign _ _ rfl rfl) ?_
  refine AOps_nil ?_
  refine ACode_seq (ACode_region ?_)
  refine AOps_buildSlice 10 _ _ _ [] (rowsD ([] : List (List Int))) _ rfl rfl rfl rfl rfl (by decide) Tryd.underlying82 Tryd.sizeOf30 (zero_of Tryd.typeInfo30 rfl) rfl rfl (rowsD_one _) ?_
  refine AOps_q 5 _ rfl rfl rfl (QOp_assign _ _ rfl rfl) ?_
  refine AOps_nil ?_
  obtain ⟨s19, hss19, hks19⟩ := bindO h
  clear h
  refine ACode_seqJ (fun E' H' => Weak 46 G E' H' [(5, .vec 0 0)] [.vec 0 (rowsD s19)]) ?_ ?_
  · have h := hss19
    clear hss19
    refine ACode_seq (ACode_region ?_)
    refine AOps_q 11 _ rfl rfl rfl (QOp_fieldAddr_pv _ _ _ _ _ 0 _ _ rfl Tryd.underlying48 rfl _ Tryd.sizeOf2 rfl rfl) ?_
    refine AOps_q 12 _ rfl rfl rfl (QOp_load_pv _ _ _ _ _ rfl Tryd.isAgg2 rfl rfl) ?_
    refine AOps_q 13 _ rfl rfl rfl (QOp_move _ _ rfl rfl) ?_
    refine AOps_nil ?_
    refine ACode_block ?_
    refine ACode_loopW (fun k0 E H => ∃ (x1 : Int) (x2 : List (List Int)), E = [(2, .d (.pv (posD p0) 0)), (3, .d (.pv ([iD p1]) 0)), (5, .vec 0 0), (12, iV p0.n), (13, iV x1)] ∧ H = [.vec 0 (rowsD x2)] ∧ impl_position_triangles_l0 k p0 p1 k0 x1 x2 = some s19) k _ _ (Weak_keep 0 hm [2, 3, 5, 12, 13] [0] _ _ rfl rfl rfl) ⟨_, _, rfl, rfl, h⟩ ?_
    clear h
    rintro k0 E H ⟨x1, x2, rfl, rfl, h⟩
    cases k0 with
    | zero => cases (show (none : Option (List (List Int))) = some _ from h)
    | succ k0 =>
      rw [impl_position_triangles_l0] at h
      refine ACode_seq (ACode_region ?_)
      refine AOps_q 14 _ rfl rfl rfl (QOp_lss _ _ _ _ _ _ _ rfl rfl rfl) ?_
      refine AOps_nil ?_
      refine ACode_seq ?_
      refine ACode_cond _ rfl (fun hb3 => ?_) (fun hb3 => ?_)
      · have h := iteT hb3 h
        refine ACode_skip ?_
        obtain ⟨s18, hss18, hks18⟩ := bindO h
        clear h
        refine ACode_seqJ (fun E' H' => Weak 46 G E' H' [(2, .d (.pv (posD p0) 0)), (3, .d (.pv ([iD p1]) 0)), (5, .vec 0 0), (12, iV p0.n), (13, iV x1)] [.vec 0 (rowsD s18)]) ?_ ?_
        · have h := hss18
          clear hss18
          refine ACode_block ?_
          refine ACode_seq (ACode_region ?_)
          refine AOps_q 15 _ rfl rfl rfl (QOp_move _ _ rfl rfl) ?_
          refine AOps_q 6 _ rfl rfl rfl (QOp_assign _ _ rfl rfl) ?_
          refine AOps_nil ?_
          refine ACode_seq (ACode_region ?_)
          refine AOps_q 16 _ rfl rfl rfl (QOp_move _ _ rfl rfl) ?_
          refine AOps_q 17 _ rfl rfl rfl (QOp_move _ _ rfl rfl) ?_
          refine AOps_nil ?_
          refine ACode_block ?_
          refine ACode_loopW (fun k1 E H => ∃ (x4 : Int) (x5 : List (List Int)), E = [(2, .d (.pv (posD p0) 0)), (3, .d (.pv ([iD p1]) 0)), (5, .vec 0 0), (6, iV x1), (12, iV p0.n), (13, iV x1), (16, iV x1), (17, iV x4)] ∧ H = [.vec 0 (rowsD x5)] ∧ impl_position_triangles_l1 k p0 p1 x1 k1 x4 x5 = some s18) k _ _ (Weak_keep 0 hm [2, 3, 5, 6, 12, 13, 16, 17] [0] _ _ rfl rfl rfl) ⟨_, _, rfl, rfl, h⟩ ?_
          clear h
          rintro k1 E H ⟨x4, x5, rfl, rfl, h⟩
          cases k1 with
          | zero => cases (show (none : Option (List (List Int))) = some _ from h)
          | succ k1 =>
            rw [impl_position_triangles_l1] at h
            refine ACode_seq (ACode_region ?_)
            refine AOps_q 18 _ rfl rfl rfl (QOp_lss _ _ _ _ _ _ _ rfl rfl rfl) ?_
            refine AOps_nil ?_
            refine ACode_seq ?_
            refine ACode_cond _ rfl (fun hb6 => ?_) (fun hb6 => ?_)
            · have h := iteT hb6 h
              refine ACode_skip ?_
              obtain ⟨s17, hss17, hks17⟩ := bindO h
              clear h
              refine ACode_seqJ (fun E' H' => Weak 46 G E' H' [(2, .d (.pv (posD p0) 0)), (3, .d (.pv ([iD p1]) 0)), (5, .vec 0 0), (6, iV x1), (12, iV p0.n), (13, iV x1), (16, iV x1), (17, iV x4)] [.vec 0 (rowsD s17)]) ?_ ?_
              · have h := hss17
                clear hss17
                refine ACode_block ?_
                refine ACode_seq (ACode_region ?_)
                refine AOps_q 19 _ rfl rfl rfl (QOp_move _ _ rfl rfl) ?_
                refine AOps_q 7 _ rfl rfl rfl (QOp_assign _ _ rfl rfl) ?_
                refine AOps_nil ?_
                refine ACode_seq (ACode_region ?_)
                refine AOps_q 20 _ rfl rfl rfl (QOp_move _ _ rfl rfl) ?_
                refine AOps_q 21 _ rfl rfl rfl (QOp_move _ _ rfl rfl) ?_
                refine AOps_nil ?_
                refine ACode_block ?_
                refine ACode_loopW (fun k2 E H => ∃ (x7 : Int) (x8 : List (List Int)), E = [(2, .d (.pv (posD p0) 0)), (3, .d (.pv ([iD p1]) 0)), (5, .vec 0 0), (6, iV x1), (7, iV x4), (12, iV p0.n), (13, iV x1), (16, iV x1), (17, iV x4), (20, iV x4), (21, iV x7)] ∧ H = [.vec 0 (rowsD x8)] ∧ impl_position_triangles_l2 k p0 p1 x1 x4 k2 x7 x8 = some s17) k _ _ (Weak_keep 0 hm [2, 3, 5, 6, 7, 12, 13, 16, 17, 20, 21] [0] _ _ rfl rfl rfl) ⟨_, _, rfl, rfl, h⟩ ?_
                clear h
                rintro k2 E H ⟨x7, x8, rfl, rfl, h⟩
                cases k2 with
                | zero => cases (show (none : Option (List (List Int))) = some _ from h)
                | succ k2 =>
                  rw [impl_position_triangles_l2] at h
                  refine ACode_seq (ACode_region ?_)
                  refine AOps_q 22 _ rfl rfl rfl (QOp_lss _ _ _ _ _ _ _ rfl rfl rfl) ?_
                  refine AOps_nil ?_
                  refine ACode_seq ?_
                  refine ACode_cond _ rfl (fun hb9 => ?_) (fun hb9 => ?_)
                  · have h := iteT hb9 h
                    refine ACode_skip ?_
                    obtain ⟨s16, hss16, hks16⟩ := bindO h
                    clear h
                    refine ACode_seqJ (fun E' H' => Weak 46 G E' H' [(2, .d (.pv (posD p0) 0)), (3, .d (.pv ([iD p1]) 0)), (5, .vec 0 0), (6, iV x1), (7, iV x4), (12, iV p0.n), (13, iV x1), (16, iV x1), (17, iV x4), (20, iV x4), (21, iV x7)] [.vec 0 (rowsD s16)]) ?_ ?_
                    · have h := hss16
                      clear hss16
                      refine ACode_block ?_
                      refine ACode_seq (ACode_region ?_)
                      refine AOps_q 23 _ rfl rfl rfl (QOp_move _ _ rfl rfl) ?_
                      refine AOps_q 8 _ rfl rfl rfl (QOp_assign _ _ rfl rfl) ?_
                      refine AOps_nil ?_
                      refine ACode_seq (ACode_region ?_)
                      refine AOps_q 24 _ rfl rfl rfl (QOp_move _ _ rfl rfl) ?_
                      refine AOps_q 25 _ rfl rfl rfl (QOp_move _ _ rfl rfl) ?_
                      refine AOps_call [] 26 _ _ _ _ _ _ _ _ _ _ rfl rfl rfl rfl rfl rfl rfl Tryd.call52 rfl (nodupB_sound _ rfl) rfl rfl rfl (impl_number_ac x7 x4) ?_
                      rintro _ _ ⟨rfl, rfl⟩
                      refine ⟨(fun _ h => nomatch h), (allc (trivial) (fun _ h => nomatch h)), AOps_as 26 (v' := iV (impl_number x7 x4)) (H' := [.vec 0 (rowsD x8)]) rfl rfl ?_⟩
                      refine AOps_q 27 _ rfl rfl rfl (QOp_move _ _ rfl rfl) ?_
                      refine AOps_q 28 _ rfl rfl rfl (QOp_move _ _ rfl rfl) ?_
                      refine AOps_call [] 29 _ _ _ _ _ _ _ _ _ _ rfl rfl rfl rfl rfl rfl rfl Tryd.call52 rfl (nodupB_sound _ rfl) rfl rfl rfl (impl_number_ac x7 x1) ?_
                      rintro _ _ ⟨rfl, rfl⟩
                      refine ⟨(fun _ h => nomatch h), (allc (trivial) (fun _ h => nomatch h)), AOps_as 29 (v' := iV (impl_number x7 x1)) (H' := [.vec 0 (rowsD x8)]) rfl rfl ?_⟩
                      refine AOps_q 30 _ rfl rfl rfl (QOp_move _ _ rfl rfl) ?_
                      refine AOps_q 31 _ rfl rfl rfl (QOp_move _ _ rfl rfl) ?_
                      refine AOps_call [] 32 _ _ _ _ _ _ _ _ _ _ rfl rfl rfl rfl rfl rfl rfl Tryd.call52 rfl (nodupB_sound _ rfl) rfl rfl rfl (impl_number_ac x4 x1) ?_
                      rintro _ _ ⟨rfl, rfl⟩
                      refine ⟨(fun _ h => nomatch h), (allc (trivial) (fun _ h => nomatch h)), AOps_as 32 (v' := iV (impl_number x4 x1)) (H' := [.vec 0 (rowsD x8)]) rfl rfl ?_⟩
                      refine AOps_buildSlice 33 _ _ _ [_, _, _] (intsD ([(impl_number x7 x4), (impl_number x7 x1), (impl_number x4 x1)])) _ rfl rfl rfl rfl rfl (by decide) Tryd.underlying30 Tryd.sizeOf2 (zero_of Tryd.typeInfo2 rfl) rfl rfl (intsD_one _) ?_
                      refine AOps_q 9 _ rfl rfl rfl (QOp_assign _ _ rfl rfl) ?_
                      refine AOps_nil ?_
                      refine ACode_seq (ACode_region ?_)
                      refine AOps_q 34 _ rfl rfl rfl (QOp_move _ _ rfl rfl) ?_
                      refine AOps_q 35 _ rfl rfl rfl (QOp_makeFuncD _ _ _ _ rfl rfl rfl) ?_
                      obtain ⟨r13, hr13, h⟩ := bindO h
                      refine AOps_callL [] 36 _ _ _ _ _ _ _ _ _ _ rfl rfl rfl rfl rfl rfl rfl Tryd.call73 rfl (nodupB_sound _ rfl) rfl rfl rfl (slices_ContainsFunc_ac k ([(impl_number x7 x4), (impl_number x7 x1), (impl_number x4 x1)]) (fun a0 => impl_position_triangles_c1 a0 p0 p1) 76 ([.pv (posD p0) 0, .pv ([iD p1]) 0]) Tryd.call76 (fun a0 r h => impl_position_triangles_c1_ac a0 p0 p1 r h) _ hr13) ?_
                      rintro _ _ ⟨rfl, rfl⟩
                      refine ⟨(fun _ h => nomatch h), (allc (flat_s _) (fun _ h => nomatch h)), AOps_as 36 (v' := bV r13) (H' := [.vec 0 (rowsD x8), .vec 0 (intsD ([(impl_number x7 x4), (impl_number x7 x1), (impl_number x4 x1)]))]) rfl rfl ?_⟩
                      refine AOps_q 37 _ rfl rfl rfl (QOp_not _ _ _ rfl rfl) ?_
                      refine AOps_nil ?_
                      refine ACode_cond _ rfl (fun hb14 => ?_) (fun hb14 => ?_)
                      · have h := iteT hb14 h
                        refine (ACode_region ?_)
                        refine AOps_q 38 _ rfl rfl rfl (QOp_move _ _ rfl rfl) ?_
                        refine AOps_q 39 _ rfl rfl rfl (QOp_move _ _ rfl rfl) ?_
                        refine AOps_freeze 39 1 0 _ rfl rfl ?_
                        refine AOps_buildSlice 40 _ _ _ [_] (rowsD ([[(impl_number x7 x4), (impl_number x7 x1), (impl_number x4 x1)]])) _ rfl rfl rfl rfl rfl (by decide) Tryd.underlying82 Tryd.sizeOf30 (zero_of Tryd.typeInfo30 rfl) rfl rfl (rowsD_one _) ?_
                        obtain ⟨hc15, h⟩ := guardO h
                        refine AOps_append 41 _ _ _ _ _ _ _ _ _ _ _ _ rfl rfl rfl rfl rfl rfl rfl Tryd.underlying82 Tryd.type30 rfl rfl rfl (by decide) rfl rfl rfl rfl (rowsD_one _) (by rw [rowsD_length, rowsD_length]; exact hc15) ?_
                        rw [rowsD_app]
                        refine AOps_q 5 _ rfl rfl rfl (QOp_assign _ _ rfl rfl) ?_
                        refine AOps_nil ?_
                        cases h
                        exact Weak_trans (Weak_keep 0 hm [2, 3, 5, 6, 7, 12, 13, 16, 17, 20, 21] [0] _ _ rfl rfl rfl) (Weak_reset 0 hm hz [2, 3, 5, 6, 7, 12, 13, 16, 17, 20, 21] _ _ rfl rfl)
                      · have h := iteF hb14 h
                        refine ACode_skip ?_
                        cases h
                        exact Weak_keep 0 hm [2, 3, 5, 6, 7, 12, 13, 16, 17, 20, 21] [0] _ _ rfl rfl rfl
                    intro E' H' hw
                    refine ACode_weak hw ?_
                    have h := hks16
                    refine (ACode_region ?_)
                    refine AOps_q 42 _ rfl rfl rfl (QOp_add _ _ _ _ _ _ _ rfl rfl rfl) ?_
                    refine AOps_q 21 _ rfl rfl rfl (QOp_move _ _ rfl rfl) ?_
                    refine AOps_nil ?_
                    exact ⟨k2, _, _, Nat.lt_succ_self _, Weak_keep 0 hm [2, 3, 5, 6, 7, 12, 13, 16, 17, 20, 21] [0] _ _ rfl rfl rfl, _, _, rfl, rfl, h⟩
                  · have h := iteF hb9 h
                    refine ACode_exit ?_
                    cases h
                    exact Weak_keep 0 hm [2, 3, 5, 6, 12, 13, 16, 17] [0] _ _ rfl rfl rfl
              intro E' H' hw
              refine ACode_weak hw ?_
              have h := hks17
              refine (ACode_region ?_)
              refine AOps_q 43 _ rfl rfl rfl (QOp_add _ _ _ _ _ _ _ rfl rfl rfl) ?_
              refine AOps_q 17 _ rfl rfl rfl (QOp_move _ _ rfl rfl) ?_
              refine AOps_nil ?_
              exact ⟨k1, _, _, Nat.lt_succ_self _, Weak_keep 0 hm [2, 3, 5, 6, 12, 13, 16, 17] [0] _ _ rfl rfl rfl, _, _, rfl, rfl, h⟩
            · have h := iteF hb6 h
              refine ACode_exit ?_
              cases h
              exact Weak_keep 0 hm [2, 3, 5, 12, 13] [0] _ _ rfl rfl rfl
        intro E' H' hw
        refine ACode_weak hw ?_
        have h := hks18
        refine (ACode_region ?_)
        refine AOps_q 44 _ rfl rfl rfl (QOp_add _ _ _ _ _ _ _ rfl rfl rfl) ?_
        refine AOps_q 13 _ rfl rfl rfl (QOp_move _ _ rfl rfl) ?_
        refine AOps_nil ?_
        exact ⟨k0, _, _, Nat.lt_succ_self _, Weak_keep 0 hm [2, 3, 5, 12, 13] [0] _ _ rfl rfl rfl, _, _, rfl, rfl, h⟩
      · have h := iteF hb3 h
        refine ACode_exit ?_
        cases h
        exact Weak_keep 0 hm [5] [0] _ _ rfl rfl rfl
  intro E' H' hw
  refine ACode_weak hw ?_
  have h := hks19
  refine ACode_seq (ACode_region ?_)
  refine AOps_q 45 _ rfl rfl rfl (QOp_move _ _ rfl rfl) ?_
  refine AOps_q 4 _ rfl rfl rfl (QOp_assign _ _ rfl rfl) ?_
  refine AOps_nil ?_
  refine ACode_ret ?_
  cases h
  exact ⟨_, _, Weak_reset 0 hm hz [4] _ _ rfl rfl, _, _, [0], _, (.cons (ResV_tmp _ _ rfl) .nil), rfl, rfl, rfl, rfl, rfl⟩

-- slices.IndexFunc[[][]int64,[]int64]
def slices_IndexFunc_R_l0 (p0 : List (List Int)) (p1 : (List Int) → Option (Bool)) : Nat → Int → Option (Sum (Unit) (Int))
  | 0, _ => none
  | k0 + 1, x1 => (if decide (x1 < (p0.length : Int)) then (if 0 ≤ x1 ∧ x1 < (p0.length : Int) then (p1 (p0.getD x1.toNat [])).bind fun r4 => (if r4 then some (.inr x1) else slices_IndexFunc_R_l0 p0 p1 k0 (w64 (x1 + 1))) else none) else some (.inl ()))
def slices_IndexFunc_R (k : Nat) (p0 : List (List Int)) (p1 : (List Int) → Option (Bool)) : Option (Int) :=
  (slices_IndexFunc_R_l0 p0 p1 k 0 : Option (Sum (Unit) (Int))).bind fun os6 => (match os6 with | .inl s6 => some (-1) | .inr rr => some rr)
set_option maxRecDepth 100000 in
theorem slices_IndexFunc_R_ac (k : Nat) (p0 : List (List Int)) (p1 : (List Int) → Option (Bool)) (g_p1 : FuncId) (c_p1 : List D) (hg_p1 : ∀ args w, (callFunc g_p1 args).run Tryd.prog w = .ok (.enter g_p1 args) w) (hf_p1 : ∀ (a0 : List Int) (r : Bool), p1 a0 = some r → AC Tryd.prog g_p1 ([.d (.sl none (intsD a0))] ++ c_p1.map AV.d) [] (fun res H' => res = [bV r] ∧ H' = [])) (r : Int) (h : slices_IndexFunc_R k p0 p1 = some r) : AC Tryd.prog 77 [.d (.sl none (rowsD p0)), .d (.clo g_p1 c_p1)] [] (fun res H' => res = [iV r] ∧ H' = []) := by
  refine AC_of_body true Tryd.func77 rfl Tryd.ntmps77 (rvs := [.tmp 4]) rfl rfl (fun G hG => ?_)
  have hm : G.H.length = 0 := by rw [hG]; rfl
  have hz : zeroG G.H = true := by rw [hG]; rfl
  unfold slices_IndexFunc_R at h
  refine ACode_seq (ACode_region ?_)
  refine AOps_q 4 _ rfl rfl rfl (QOp_assign _ _ rfl rfl) ?_
  refine AOps_nil ?_
  obtain ⟨os6, hss6, hks6⟩ := bindO h
  clear h
  refine ACode_seqJ (fun E' H' => ∃ s6 : Unit, os6 = .inl s6 ∧ Weak 19 G E' H' [] []) ?_ ?_
  · have h := hss6
    clear hss6
    refine ACode_seq (ACode_region ?_)
    refine AOps_q 6 _ rfl rfl rfl (QOp_move _ _ rfl rfl) ?_
    refine AOps_q 7 _ rfl rfl rfl (QOp_len_sl _ _ _ _ _ _ _ (rowsD_length _) rfl rfl rfl rfl Tryd.underlying82 rfl) ?_
    refine AOps_q 8 _ rfl rfl rfl (QOp_move _ _ rfl rfl) ?_
    refine AOps_nil ?_
    refine ACode_block ?_
    refine ACode_loopW (fun k0 E H => ∃ (x1 : Int), E = [(0, .d (.sl none (rowsD p0))), (1, .d (.clo g_p1 c_p1)), (7, iV (p0.length : Int)), (8, iV x1)] ∧ H = [] ∧ slices_IndexFunc_R_l0 p0 p1 k0 x1 = some os6) k _ _ (Weak_keep 0 hm [0, 1, 7, 8] [] _ _ rfl rfl rfl) ⟨_, rfl, rfl, h⟩ ?_
    clear h
    rintro k0 E H ⟨x1, rfl, rfl, h⟩
    cases k0 with
    | zero => cases (show (none : Option (Sum (Unit) (Int))) = some _ from h)
    | succ k0 =>
      rw [slices_IndexFunc_R_l0] at h
      refine ACode_seq (ACode_region ?_)
      refine AOps_q 9 _ rfl rfl rfl (QOp_lss _ _ _ _ _ _ _ rfl rfl rfl) ?_
      refine AOps_nil ?_
      refine ACode_seq ?_
      refine ACode_cond _ rfl (fun hb2 => ?_) (fun hb2 => ?_)
      · have h := iteT hb2 h
        refine ACode_skip ?_
        refine ACode_seq ?_
        refine ACode_block ?_
        refine ACode_seq (ACode_region ?_)
        refine AOps_q 10 _ rfl rfl rfl (QOp_move _ _ rfl rfl) ?_
        refine AOps_q 5 _ rfl rfl rfl (QOp_assign _ _ rfl rfl) ?_
        refine AOps_nil ?_
        refine ACode_seq (ACode_region ?_)
        refine AOps_q 11 _ rfl rfl rfl (QOp_move _ _ rfl rfl) ?_
        refine AOps_q 12 _ rfl rfl rfl (QOp_move _ _ rfl rfl) ?_
        refine AOps_q 13 _ rfl rfl rfl (QOp_move _ _ rfl rfl) ?_
        obtain ⟨hc3, h⟩ := guardO h
        refine AOps_q 14 _ rfl rfl rfl (QOp_indexAddr_sl _ _ _ _ _ _ _ _ rfl Tryd.underlying82 Tryd.sizeOf30 hc3.1 (by rw [rowsD_length]; exact hc3.2) rfl rfl) ?_
        refine AOps_q 15 _ rfl rfl rfl (QOp_load_pv _ _ _ _ _ rfl Tryd.isAgg30 rfl (rowsD_get _ _ [] (by omega))) ?_
        obtain ⟨r4, hr4, h⟩ := bindO h
        refine AOps_call [] 16 _ _ _ _ _ _ _ _ _ _ rfl rfl rfl rfl rfl rfl rfl hg_p1 rfl (nodupB_sound _ rfl) rfl rfl (viewA_mapD _) (hf_p1 (p0.getD x1.toNat []) _ hr4) ?_
        rintro _ _ ⟨rfl, rfl⟩
        refine ⟨(fun _ h => nomatch h), (allc (trivial) (fun _ h => nomatch h)), AOps_as 16 (v' := bV r4) (H' := []) rfl rfl ?_⟩
        refine AOps_nil ?_
        refine ACode_cond _ rfl (fun hb5 => ?_) (fun hb5 => ?_)
        · have h := iteT hb5 h
          refine ACode_seq (ACode_region ?_)
          refine AOps_q 17 _ rfl rfl rfl (QOp_move _ _ rfl rfl) ?_
          refine AOps_q 4 _ rfl rfl rfl (QOp_assign _ _ rfl rfl) ?_
          refine AOps_nil ?_
          refine ACode_ret ?_
          cases h
          have h := hks6
          cases h
          exact ⟨_, _, fun r a w h => ⟨r, h⟩, _, _, [], _, (.cons (ResV_tmp _ _ rfl) .nil), rfl, rfl, rfl, rfl, rfl⟩
        · have h := iteF hb5 h
          refine ACode_skip ?_
          refine (ACode_region ?_)
          refine AOps_q 18 _ rfl rfl rfl (QOp_add _ _ _ _ _ _ _ rfl rfl rfl) ?_
          refine AOps_q 8 _ rfl rfl rfl (QOp_move _ _ rfl rfl) ?_
          refine AOps_nil ?_
          exact ⟨k0, _, _, Nat.lt_succ_self _, Weak_keep 0 hm [0, 1, 7, 8] [] _ _ rfl rfl rfl, _, rfl, rfl, h⟩
      · have h := iteF hb2 h
        refine ACode_exit ?_
        cases h
        exact ⟨_, rfl, Weak_keep 0 hm [] [] _ _ rfl rfl rfl⟩
  rintro E' H' ⟨s6, rfl, hw⟩
  refine ACode_weak hw ?_
  have h := hks6
  refine ACode_seq (ACode_region ?_)
  refine AOps_q 4 _ rfl rfl rfl (QOp_assign _ _ rfl rfl) ?_
  refine AOps_nil ?_
  refine ACode_ret ?_
  cases h
  exact ⟨_, _, fun r a w h => ⟨r, h⟩, _, _, [], _, (.cons (ResV_tmp _ _ rfl) .nil), rfl, rfl, rfl, rfl, rfl⟩

-- slices.ContainsFunc[[][]int64,[]int64]
def slices_ContainsFunc_R (k : Nat) (p0 : List (List Int)) (p1 : (List Int) → Option (Bool)) : Option (Bool) :=
  (slices_IndexFunc_R k p0 p1).bind fun r1 => some (decide (0 ≤ r1))
set_option maxRecDepth 100000 in
theorem slices_ContainsFunc_R_ac (k : Nat) (p0 : List (List Int)) (p1 : (List Int) → Option (Bool)) (g_p1 : FuncId) (c_p1 : List D) (hg_p1 : ∀ args w, (callFunc g_p1 args).run Tryd.prog w = .ok (.enter g_p1 args) w) (hf_p1 : ∀ (a0 : List Int) (r : Bool), p1 a0 = some r → AC Tryd.prog g_p1 ([.d (.sl none (intsD a0))] ++ c_p1.map AV.d) [] (fun res H' => res = [bV r] ∧ H' = [])) (r : Bool) (h : slices_ContainsFunc_R k p0 p1 = some r) : AC Tryd.prog 62 [.d (.sl none (rowsD p0)), .d (.clo g_p1 c_p1)] [] (fun res H' => res = [bV r] ∧ H' = []) := by
  refine AC_of_body true Tryd.func62 rfl Tryd.ntmps62 (rvs := [.tmp 4]) rfl rfl (fun G hG => ?_)
  have hm : G.H.length = 0 := by rw [hG]; rfl
  have hz : zeroG G.H = true := by rw [hG]; rfl
  unfold slices_ContainsFunc_R at h
  refine ACode_seq (ACode_region ?_)
  refine AOps_q 4 _ rfl rfl rfl (QOp_assign _ _ rfl rfl) ?_
  refine AOps_nil ?_
  refine ACode_seq (ACode_region ?_)
  refine AOps_q 5 _ rfl rfl rfl (QOp_move _ _ rfl rfl) ?_
  refine AOps_q 6 _ rfl rfl rfl (QOp_move _ _ rfl rfl) ?_
  obtain ⟨r1, hr1, h⟩ := bindO h
  refine AOps_call [] 7 _ _ _ _ _ _ _ _ _ _ rfl rfl rfl rfl rfl rfl rfl Tryd.call77 rfl (nodupB_sound _ rfl) rfl rfl rfl (slices_IndexFunc_R_ac k p0 p1 g_p1 c_p1 hg_p1 hf_p1 _ hr1) ?_
  rintro _ _ ⟨rfl, rfl⟩
  refine ⟨(fun _ h => nomatch h), (allc (trivial) (fun _ h => nomatch h)), AOps_as 7 (v' := iV r1) (H' := []) rfl rfl ?_⟩
  refine AOps_q 8 _ rfl rfl rfl (QOp_geq _ _ _ _ _ _ _ rfl rfl rfl) ?_
  refine AOps_q 4 _ rfl rfl rfl (QOp_assign _ _ rfl rfl) ?_
  refine AOps_nil ?_
  refine ACode_ret ?_
  cases h
  exact ⟨_, _, fun r a w h => ⟨r, h⟩, _, _, [], _, (.cons (ResV_tmp _ _ rfl) .nil), rfl, rfl, rfl, rfl, rfl⟩

-- slices.Index[[]int64,int64]
def slices_Index_l0 (p0 : List Int) (p1 : Int) : Nat → Int → Option (Sum (Unit) (Int))
  | 0, _ => none
  | k0 + 1, x1 => (if decide (x1 < (p0.length : Int)) then (if 0 ≤ x1 ∧ x1 < (p0.length : Int) then (if decide (p1 = (p0.getD x1.toNat 0)) then some (.inr x1) else slices_Index_l0 p0 p1 k0 (w64 (x1 + 1))) else none) else some (.inl ()))
def slices_Index (k : Nat) (p0 : List Int) (p1 : Int) : Option (Int) :=
  (slices_Index_l0 p0 p1 k 0 : Option (Sum (Unit) (Int))).bind fun os5 => (match os5 with | .inl s5 => some (-1) | .inr rr => some rr)
set_option maxRecDepth 100000 in
theorem slices_Index_ac (k : Nat) (p0 : List Int) (p1 : Int) (r : Int) (h : slices_Index k p0 p1 = some r) : AC Tryd.prog 78 [.d (.sl none (intsD p0)), iV p1] [] (fun res H' => res = [iV r] ∧ H' = []) := by
  refine AC_of_body true Tryd.func78 rfl Tryd.ntmps78 (rvs := [.tmp 4]) rfl rfl (fun G hG => ?_)
  have hm : G.H.length = 0 := by rw [hG]; rfl
  have hz : zeroG G.H = true := by rw [hG]; rfl
  unfold slices_Index at h
  refine ACode_seq (ACode_region ?_)
  refine AOps_q 4 _ rfl rfl rfl (QOp_assign _ _ rfl rfl) ?_
  refine AOps_nil ?_
  obtain ⟨os5, hss5, hks5⟩ := bindO h
  clear h
  refine ACode_seqJ (fun E' H' => ∃ s5 : Unit, os5 = .inl s5 ∧ Weak 19 G E' H' [] []) ?_ ?_
  · have h := hss5
    clear hss5
    refine ACode_seq (ACode_region ?_)
    refine AOps_q 6 _ rfl rfl rfl (QOp_move _ _ rfl rfl) ?_
    refine AOps_q 7 _ rfl rfl rfl (QOp_len_sl _ _ _ _ _ _ _ (intsD_length _) rfl rfl rfl rfl Tryd.underlying30 rfl) ?_
    refine AOps_q 8 _ rfl rfl rfl (QOp_move _ _ rfl rfl) ?_
    refine AOps_nil ?_
    refine ACode_block ?_
    refine ACode_loopW (fun k0 E H => ∃ (x1 : Int), E = [(0, .d (.sl none (intsD p0))), (1, iV p1), (7, iV (p0.length : Int)), (8, iV x1)] ∧ H = [] ∧ slices_Index_l0 p0 p1 k0 x1 = some os5) k _ _ (Weak_keep 0 hm [0, 1, 7, 8] [] _ _ rfl rfl rfl) ⟨_, rfl, rfl, h⟩ ?_
    clear h
    rintro k0 E H ⟨x1, rfl, rfl, h⟩
    cases k0 with
    | zero => cases (show (none : Option (Sum (Unit) (Int))) = some _ from h)
    | succ k0 =>
      rw [slices_Index_l0] at h
      refine ACode_seq (ACode_region ?_)
      refine AOps_q 9 _ rfl rfl rfl (QOp_lss _ _ _ _ _ _ _ rfl rfl rfl) ?_
      refine AOps_nil ?_
      refine ACode_seq ?_
      refine ACode_cond _ rfl (fun hb2 => ?_) (fun hb2 => ?_)
      · have h := iteT hb2 h
        refine ACode_skip ?_
        refine ACode_seq ?_
        refine ACode_block ?_
        refine ACode_seq (ACode_region ?_)
        refine AOps_q 10 _ rfl rfl rfl (QOp_move _ _ rfl rfl) ?_
        refine AOps_q 5 _ rfl rfl rfl (QOp_assign _ _ rfl rfl) ?_
        refine AOps_nil ?_
        refine ACode_seq (ACode_region ?_)
        refine AOps_q 11 _ rfl rfl rfl (QOp_move _ _ rfl rfl) ?_
        refine AOps_q 12 _ rfl rfl rfl (QOp_move _ _ rfl rfl) ?_
        refine AOps_q 13 _ rfl rfl rfl (QOp_move _ _ rfl rfl) ?_
        obtain ⟨hc3, h⟩ := guardO h
        refine AOps_q 14 _ rfl rfl rfl (QOp_indexAddr_sl _ _ _ _ _ _ _ _ rfl Tryd.underlying30 Tryd.sizeOf2 hc3.1 (by rw [intsD_length]; exact hc3.2) rfl rfl) ?_
        refine AOps_q 15 _ rfl rfl rfl (QOp_load_pv _ _ _ _ _ rfl Tryd.isAgg2 rfl (intsD_get _ _ 0 (by omega))) ?_
        refine AOps_q 16 _ rfl rfl rfl (QOp_eql _ _ _ _ _ _ _ rfl rfl rfl) ?_
        refine AOps_nil ?_
        refine ACode_cond _ rfl (fun hb4 => ?_) (fun hb4 => ?_)
        · have h := iteT hb4 h
          refine ACode_seq (ACode_region ?_)
          refine AOps_q 17 _ rfl rfl rfl (QOp_move _ _ rfl rfl) ?_
          refine AOps_q 4 _ rfl rfl rfl (QOp_assign _ _ rfl rfl) ?_
          refine AOps_nil ?_
          refine ACode_ret ?_
          cases h
          have h := hks5
          cases h
          exact ⟨_, _, fun r a w h => ⟨r, h⟩, _, _, [], _, (.cons (ResV_tmp _ _ rfl) .nil), rfl, rfl, rfl, rfl, rfl⟩
        · have h := iteF hb4 h
          refine ACode_skip ?_
          refine (ACode_region ?_)
          refine AOps_q 18 _ rfl rfl rfl (QOp_add _ _ _ _ _ _ _ rfl rfl rfl) ?_
          refine AOps_q 8 _ rfl rfl rfl (QOp_move _ _ rfl rfl) ?_
          refine AOps_nil ?_
          exact ⟨k0, _, _, Nat.lt_succ_self _, Weak_keep 0 hm [0, 1, 7, 8] [] _ _ rfl rfl rfl, _, rfl, rfl, h⟩
      · have h := iteF hb2 h
        refine ACode_exit ?_
        cases h
        exact ⟨_, rfl, Weak_keep 0 hm [] [] _ _ rfl rfl rfl⟩
  rintro E' H' ⟨s5, rfl, hw⟩
  refine ACode_weak hw ?_
  have h := hks5
  refine ACode_seq (ACode_region ?_)
  refine AOps_q 4 _ rfl rfl rfl (QOp_assign _ _ rfl rfl) ?_
  refine AOps_nil ?_
  refine ACode_ret ?_
  cases h
  exact ⟨_, _, fun r a w h => ⟨r, h⟩, _, _, [], _, (.cons (ResV_tmp _ _ rfl) .nil), rfl, rfl, rfl, rfl, rfl⟩

-- slices.Contains[[]int64,int64]
def slices_Contains (k : Nat) (p0 : List Int) (p1 : Int) : Option (Bool) :=
  (slices_Index k p0 p1).bind fun r1 => some (decide (0 ≤ r1))
set_option maxRecDepth 100000 in
theorem slices_Contains_ac (k : Nat) (p0 : List Int) (p1 : Int) (r : Bool) (h : slices_Contains k p0 p1 = some r) : AC Tryd.prog 64 [.d (.sl none (intsD p0)), iV p1] [] (fun res H' => res = [bV r] ∧ H' = []) := by
  refine AC_of_body true Tryd.func64 rfl Tryd.ntmps64 (rvs := [.tmp 4]) rfl rfl (fun G hG => ?_)
  have hm : G.H.length = 0 := by rw [hG]; rfl
  have hz : zeroG G.H = true := by rw [hG]; rfl
  unfold slices_Contains at h
  refine ACode_seq (ACode_region ?_)
  refine AOps_q 4 _ rfl rfl rfl (QOp_assign _ _ rfl rfl) ?_
  refine AOps_nil ?_
  refine ACode_seq (ACode_region ?_)
  refine AOps_q 5 _ rfl rfl rfl (QOp_move _ _ rfl rfl) ?_
  refine AOps_q 6 _ rfl rfl rfl (QOp_move _ _ rfl rfl) ?_
  obtain ⟨r1, hr1, h⟩ := bindO h
  refine AOps_call [] 7 _ _ _ _ _ _ _ _ _ _ rfl rfl rfl rfl rfl rfl rfl Tryd.call78 rfl (nodupB_sound _ rfl) rfl rfl rfl (slices_Index_ac k p0 p1 _ hr1) ?_
  rintro _ _ ⟨rfl, rfl⟩
  refine ⟨(fun _ h => nomatch h), (allc (trivial) (fun _ h => nomatch h)), AOps_as 7 (v' := iV r1) (H' := []) rfl rfl ?_⟩
  refine AOps_q 8 _ rfl rfl rfl (QOp_geq _ _ _ _ _ _ _ rfl rfl rfl) ?_
  refine AOps_q 4 _ rfl rfl rfl (QOp_assign _ _ rfl rfl) ?_
  refine AOps_nil ?_
  refine ACode_ret ?_
  cases h
  exact ⟨_, _, fun r a w h => ⟨r, h⟩, _, _, [], _, (.cons (ResV_tmp _ _ rfl) .nil), rfl, rfl, rfl, rfl, rfl⟩

-- (loop.example/g01362/impl.position).isPosition$1
def impl_position_isPosition_c1 (k : Nat) (p0 : List Int) (p1 : Int) : Option (Bool) :=
  (slices_Contains k p0 p1).bind fun r1 => some (!r1)
set_option maxRecDepth 100000 in
theorem impl_position_isPosition_c1_ac (k : Nat) (p0 : List Int) (p1 : Int) (r : Bool) (h : impl_position_isPosition_c1 k p0 p1 = some r) : AC Tryd.prog 63 [.d (.sl none (intsD p0)), .d (.pv ([iD p1]) 0)] [] (fun res H' => res = [bV r] ∧ H' = []) := by
  refine AC_of_body true Tryd.func63 rfl Tryd.ntmps63 (rvs := [.tmp 3]) rfl rfl (fun G hG => ?_)
  have hm : G.H.length = 0 := by rw [hG]; rfl
  have hz : zeroG G.H = true := by rw [hG]; rfl
  unfold impl_position_isPosition_c1 at h
  refine ACode_seq (ACode_region ?_)
  refine AOps_q 3 _ rfl rfl rfl (QOp_assign _ _ rfl rfl) ?_
  refine AOps_nil ?_
  refine ACode_seq (ACode_region ?_)
  refine AOps_q 4 _ rfl rfl rfl (QOp_move _ _ rfl rfl) ?_
  refine AOps_q 5 _ rfl rfl rfl (QOp_load_pv _ _ _ _ _ rfl Tryd.isAgg2 rfl rfl) ?_
  obtain ⟨r1, hr1, h⟩ := bindO h
  refine AOps_call [] 6 _ _ _ _ _ _ _ _ _ _ rfl rfl rfl rfl rfl rfl rfl Tryd.call64 rfl (nodupB_sound _ rfl) rfl rfl rfl (slices_Contains_ac k p0 p1 _ hr1) ?_
  rintro _ _ ⟨rfl, rfl⟩
  refine ⟨(fun _ h => nomatch h), (allc (trivial) (fun _ h => nomatch h)), AOps_as 6 (v' := bV r1) (H' := []) rfl rfl ?_⟩
  refine AOps_q 7 _ rfl rfl rfl (QOp_not _ _ _ rfl rfl) ?_
  refine AOps_q 3 _ rfl rfl rfl (QOp_assign _ _ rfl rfl) ?_
  refine AOps_nil ?_
  refine ACode_ret ?_
  cases h
  exact ⟨_, _, fun r a w h => ⟨r, h⟩, _, _, [], _, (.cons (ResV_tmp _ _ rfl) .nil), rfl, rfl, rfl, rfl, rfl⟩

-- (loop.example/g01362/impl.position).isPosition
def impl_position_isPosition_l0 (k : Nat) (p0 : Pos) (r10 : List (List Int)) : Nat → Int → Option (Sum (Unit) (Bool))
  | 0, _ => none
  | k0 + 1, x12 => (if decide (x12 < (impl_size p0.l)) then (slices_ContainsFunc_R k r10 (fun a0 => impl_position_isPosition_c1 k a0 x12)).bind fun r14 => (if !r14 then some (.inr true) else impl_position_isPosition_l0 k p0 r10 k0 (w64 (x12 + 1))) else some (.inl ()))
def impl_position_isPosition (k : Nat) (p0 : Pos) : Option (Bool) :=
  (((impl_position_mover k p0).bind fun r1 => (if !(impl_in r1 0 1) then some true else (impl_position_mover k p0).bind fun r4 => (impl_position_triangles k p0 r4).bind fun r5 => some (decide (0 < (r5.length : Int)))) : Option (Bool)).bind fun s6 => (if s6 then some (.inr false) else some (.inl ())) : Option (Sum (Unit) (Bool))).bind fun os8 => (match os8 with | .inl s8 => (impl_position_mover k p0).bind fun r9 => (impl_position_triangles k p0 (w64 (1 - r9))).bind fun r10 => (impl_position_isPosition_l0 k p0 r10 k 0 : Option (Sum (Unit) (Bool))).bind fun os16 => (match os16 with | .inl s16 => some (decide ((r10.length : Int) = 0)) | .inr rr => some rr) | .inr rr => some rr)
set_option maxRecDepth 100000 in
theorem impl_position_isPosition_ac (k : Nat) (p0 : Pos) (r : Bool) (h : impl_position_isPosition k p0 = some r) : AC Tryd.prog 42 [.d (.agg (posD p0))] [] (fun res H' => res = [bV r] ∧ H' = []) := by
  refine AC_of_body true Tryd.func42 rfl Tryd.ntmps42 (rvs := [.tmp 2]) rfl rfl (fun G hG => ?_)
  have hm : G.H.length = 0 := by rw [hG]; rfl
  have hz : zeroG G.H = true := by rw [hG]; rfl
  unfold impl_position_isPosition at h
  refine ACode_seq (ACode_region ?_)
  refine AOps_boxI 1 _ _ (.agg (posD p0)) (posD p0) rfl (posD_one _) rfl rfl rfl rfl rfl ?_
  refine AOps_q 2 _ rfl rfl rfl (QOp_assign _ _ rfl rfl) ?_
  refine AOps_nil ?_
  obtain ⟨os8, hss8, hks8⟩ := bindO h
  clear h
  refine ACode_seqJ (fun E' H' => ∃ s8 : Unit, os8 = .inl s8 ∧ Weak 36 G E' H' [(1, .d (.pv (posD p0) 0))] []) ?_ ?_
  · have h := hss8
    clear hss8
    obtain ⟨s6, hss6, hks6⟩ := bindO h
    clear h
    refine ACode_seqJ (fun E' H' => Weak 36 G E' H' [(1, .d (.pv (posD p0) 0)), (16, bV s6)] []) ?_ ?_
    · have h := hss6
      clear hss6
      refine ACode_any mixed ?_
      refine AAny_q 0 5 _ rfl (by kernel_rfl) rfl rfl rfl (QOp_loadN_pv _ _ _ _ _ _ rfl Tryd.isAgg48 Tryd.sizeOf48 rfl (posD_all _) (posD_length _)) ?_
      obtain ⟨r1, hr1, h⟩ := bindO h
      refine AAny_call 1 6 _ _ _ _ _ _ _ _ _ rfl (by kernel_rfl) rfl rfl rfl rfl rfl rfl rfl Tryd.call59 rfl rfl rfl (impl_position_mover_ac k p0 _ hr1) ?_
      refine AAny_call 2 7 _ _ _ _ _ _ _ _ _ rfl (by kernel_rfl) rfl rfl rfl rfl rfl rfl rfl Tryd.call50 rfl rfl rfl (impl_in_ac r1 0 1) ?_
      refine AAny_q 3 8 _ rfl (by kernel_rfl) rfl rfl rfl (QOp_not _ _ _ rfl rfl) ?_
      refine AAny_q 4 9 _ rfl (by kernel_rfl) rfl rfl rfl (QOp_move _ _ rfl rfl) ?_
      refine AAny_case 9 _ rfl (fun hb3 => ?_) (fun hb3 => ?_)
      · have h := iteT hb3 h
        refine AAny_skip 5 10 rfl (by kernel_rfl) rfl rfl rfl ?_
        refine AAny_skip 6 11 rfl (by kernel_rfl) rfl rfl rfl ?_
        refine AAny_skip 7 12 rfl (by kernel_rfl) rfl rfl rfl ?_
        refine AAny_skip 8 13 rfl (by kernel_rfl) rfl rfl rfl ?_
        refine AAny_skip 9 14 rfl (by kernel_rfl) rfl rfl rfl ?_
        refine AAny_skip 10 15 rfl (by kernel_rfl) rfl rfl rfl ?_
        refine AAny_q 11 16 _ rfl (by kernel_rfl) rfl rfl rfl (QOp_pick_t _ _ _ _ rfl rfl rfl) ?_
        refine AAny_done (by kernel_rfl) ?_
        cases h
        exact Weak_keep 0 hm [1, 16] [] _ _ rfl rfl rfl
      · have h := iteF hb3 h
        refine AAny_q 5 10 _ rfl (by kernel_rfl) rfl rfl rfl (QOp_loadN_pv _ _ _ _ _ _ rfl Tryd.isAgg48 Tryd.sizeOf48 rfl (posD_all _) (posD_length _)) ?_
        refine AAny_q 6 11 _ rfl (by kernel_rfl) rfl rfl rfl (QOp_loadN_pv _ _ _ _ _ _ rfl Tryd.isAgg48 Tryd.sizeOf48 rfl (posD_all _) (posD_length _)) ?_
        obtain ⟨r4, hr4, h⟩ := bindO h
        refine AAny_call 7 12 _ _ _ _ _ _ _ _ _ rfl (by kernel_rfl) rfl rfl rfl rfl rfl rfl rfl Tryd.call59 rfl rfl rfl (impl_position_mover_ac k p0 _ hr4) ?_
        refine AAny_all [8] (by kernel_rfl) rfl (allc ?_ (fun _ h => nomatch h))
        obtain ⟨r5, hr5, h⟩ := bindO h
        refine AStep_callN 8 13 _ _ _ _ _ _ _ _ _ rfl rfl rfl rfl rfl rfl rfl rfl Tryd.call60 rfl rfl rfl (impl_position_triangles_ac k p0 r4 _ hr5) ?_
        rintro _ _ ⟨rfl, rfl⟩
        refine ⟨(allc (fun _ _ => trivial) (fun _ h => nomatch h)), (allc (trivial) (fun _ h => nomatch h)), AAny_as 13 (v' := .vec 0 0) (H' := [.vec 0 (rowsD r5)]) rfl rfl ?_⟩
        refine AAny_q 9 14 _ rfl (by kernel_rfl) rfl rfl rfl (QOp_len_vec _ _ _ _ _ _ _ _ (rowsD_length _) rfl rfl rfl rfl Tryd.underlying82 rfl rfl) ?_
        refine AAny_q 10 15 _ rfl (by kernel_rfl) rfl rfl rfl (QOp_gtr _ _ _ _ _ _ _ rfl rfl rfl) ?_
        refine AAny_q 11 16 _ rfl (by kernel_rfl) rfl rfl rfl (QOp_pick_f _ _ _ _ rfl rfl rfl) ?_
        refine AAny_done (by kernel_rfl) ?_
        cases h
        exact Weak_keep 0 hm [1, 16] [] _ _ rfl rfl rfl
    intro E' H' hw
    refine ACode_weak hw ?_
    have h := hks6
    refine ACode_cond _ rfl (fun hb7 => ?_) (fun hb7 => ?_)
    · have h := iteT hb7 h
      refine ACode_seq (ACode_region ?_)
      refine AOps_q 2 _ rfl rfl rfl (QOp_assign _ _ rfl rfl) ?_
      refine AOps_nil ?_
      refine ACode_ret ?_
      cases h
      have h := hks8
      cases h
      exact ⟨_, _, fun r a w h => ⟨r, h⟩, _, _, [], _, (.cons (ResV_tmp _ _ rfl) .nil), rfl, rfl, rfl, rfl, rfl⟩
    · have h := iteF hb7 h
      refine ACode_skip ?_
      cases h
      exact ⟨_, rfl, Weak_keep 0 hm [1] [] _ _ rfl rfl rfl⟩
  rintro E' H' ⟨s8, rfl, hw⟩
  refine ACode_weak hw ?_
  have h := hks8
  obtain ⟨r9, hr9, h⟩ := bindO h
  obtain ⟨r10, hr10, h⟩ := bindO h
  refine ACode_seqJ (fun E' H' => Weak 36 G E' H' [(1, .d (.pv (posD p0) 0)), (3, .vec 0 0)] [.vec 0 (rowsD r10)]) ?_ ?_
  · refine ACode_any mixed ?_
    refine AAny_q 0 17 _ rfl (by kernel_rfl) rfl rfl rfl (QOp_loadN_pv _ _ _ _ _ _ rfl Tryd.isAgg48 Tryd.sizeOf48 rfl (posD_all _) (posD_length _)) ?_
    refine AAny_q 1 18 _ rfl (by kernel_rfl) rfl rfl rfl (QOp_loadN_pv _ _ _ _ _ _ rfl Tryd.isAgg48 Tryd.sizeOf48 rfl (posD_all _) (posD_length _)) ?_
    refine AAny_call 2 19 _ _ _ _ _ _ _ _ _ rfl (by kernel_rfl) rfl rfl rfl rfl rfl rfl rfl Tryd.call59 rfl rfl rfl (impl_position_mover_ac k p0 _ hr9) ?_
    refine AAny_q 3 20 _ rfl (by kernel_rfl) rfl rfl rfl (QOp_sub _ _ _ _ _ _ _ rfl rfl rfl) ?_
    refine AAny_all [4] (by kernel_rfl) rfl (allc ?_ (fun _ h => nomatch h))
    · refine AStep_callN 4 21 _ _ _ _ _ _ _ _ _ rfl rfl rfl rfl rfl rfl rfl rfl Tryd.call60 rfl rfl rfl (impl_position_triangles_ac k p0 (w64 (1 - r9)) _ hr10) ?_
      rintro _ _ ⟨rfl, rfl⟩
      refine ⟨(allc (fun _ _ => trivial) (fun _ h => nomatch h)), (allc (trivial) (fun _ h => nomatch h)), AAny_as 21 (v' := .vec 0 0) (H' := [.vec 0 (rowsD r10)]) rfl rfl ?_⟩
      refine AAny_q 5 3 _ rfl (by kernel_rfl) rfl rfl rfl (QOp_assign _ _ rfl rfl) ?_
      refine AAny_done (by kernel_rfl) ?_
      exact Weak_keep 0 hm [1, 3] [0] _ _ rfl rfl rfl
  intro E' H' hw
  refine ACode_weak hw ?_
  obtain ⟨os16, hss16, hks16⟩ := bindO h
  clear h
  refine ACode_seqJ (fun E' H' => ∃ s16 : Unit, os16 = .inl s16 ∧ Weak 36 G E' H' [(3, .vec 0 0)] [.vec 0 (rowsD r10)]) ?_ ?_
  · have h := hss16
    clear hss16
    refine ACode_seq (ACode_region ?_)
    refine AOps_q 22 _ rfl rfl rfl (QOp_fieldAddr_pv _ _ _ _ _ 1 _ _ rfl Tryd.underlying48 rfl _ Tryd.sizeOf30 rfl rfl) ?_
    refine AOps_q 23 _ rfl rfl rfl (QOp_load_pv _ _ _ _ _ rfl Tryd.isAgg30 rfl rfl) ?_
    refine AOps_call [] 24 _ _ _ _ _ _ _ _ _ _ rfl rfl rfl rfl rfl rfl rfl Tryd.call61 rfl (nodupB_sound _ rfl) rfl rfl rfl (impl_size_ac p0.l) ?_
    rintro _ _ ⟨rfl, rfl⟩
    refine ⟨(fun _ h => nomatch h), (allc (trivial) (fun _ h => nomatch h)), AOps_as 24 (v' := iV (impl_size p0.l)) (H' := [.vec 0 (rowsD r10)]) rfl rfl ?_⟩
    refine AOps_q 25 _ rfl rfl rfl (QOp_move _ _ rfl rfl) ?_
    refine AOps_nil ?_
    refine ACode_block ?_
    refine ACode_loopW (fun k0 E H => ∃ (x12 : Int), E = [(3, .vec 0 0), (24, iV (impl_size p0.l)), (25, iV x12)] ∧ H = [.vec 0 (rowsD r10)] ∧ impl_position_isPosition_l0 k p0 r10 k0 x12 = some os16) k _ _ (Weak_keep 0 hm [3, 24, 25] [0] _ _ rfl rfl rfl) ⟨_, rfl, rfl, h⟩ ?_
    clear h
    rintro k0 E H ⟨x12, rfl, rfl, h⟩
    cases k0 with
    | zero => cases (show (none : Option (Sum (Unit) (Bool))) = some _ from h)
    | succ k0 =>
      rw [impl_position_isPosition_l0] at h
      refine ACode_seq (ACode_region ?_)
      refine AOps_q 26 _ rfl rfl rfl (QOp_lss _ _ _ _ _ _ _ rfl rfl rfl) ?_
      refine AOps_nil ?_
      refine ACode_seq ?_
      refine ACode_cond _ rfl (fun hb13 => ?_) (fun hb13 => ?_)
      · have h := iteT hb13 h
        refine ACode_skip ?_
        refine ACode_seq ?_
        refine ACode_block ?_
        refine ACode_seq (ACode_region ?_)
        refine AOps_q 27 _ rfl rfl rfl (QOp_move _ _ rfl rfl) ?_
        refine AOps_alloc 4 _ _ ([iD 0]) (zero_of Tryd.typeInfo2 rfl) (by rfl) rfl rfl rfl rfl ?_
        refine AOps_store1 _ _ _ _ _ _ _ _ rfl rfl rfl rfl rfl rfl rfl Tryd.sizeOf2 (by decide) rfl ?_
        refine AOps_nil ?_
        refine ACode_seq (ACode_region ?_)
        refine AOps_q 28 _ rfl rfl rfl (QOp_move _ _ rfl rfl) ?_
        refine AOps_q 29 _ rfl rfl rfl (QOp_makeFunc _ _ _ rfl rfl) ?_
        obtain ⟨r14, hr14, h⟩ := bindO h
        refine AOps_callL [] 30 _ _ _ _ _ _ _ _ _ _ rfl rfl rfl rfl rfl rfl rfl Tryd.call62 rfl (nodupB_sound _ rfl) rfl rfl rfl (slices_ContainsFunc_R_ac k r10 (fun a0 => impl_position_isPosition_c1 k a0 x12) 63 ([.pv ([iD x12]) 0]) Tryd.call63 (fun a0 r h => impl_position_isPosition_c1_ac k a0 x12 r h) _ hr14) ?_
        rintro _ _ ⟨rfl, rfl⟩
        refine ⟨(fun _ h => nomatch h), (allc (flat_s _) (fun _ h => nomatch h)), AOps_as 30 (v' := bV r14) (H' := [.vec 0 (rowsD r10), .box [iD x12]]) rfl rfl ?_⟩
        refine AOps_q 31 _ rfl rfl rfl (QOp_not _ _ _ rfl rfl) ?_
        refine AOps_nil ?_
        refine ACode_cond _ rfl (fun hb15 => ?_) (fun hb15 => ?_)
        · have h := iteT hb15 h
          refine ACode_seq (ACode_region ?_)
          refine AOps_q 2 _ rfl rfl rfl (QOp_assign _ _ rfl rfl) ?_
          refine AOps_nil ?_
          refine ACode_ret ?_
          cases h
          have h := hks16
          cases h
          exact ⟨_, _, fun r a w h => ⟨r, h⟩, _, _, [], _, (.cons (ResV_tmp _ _ rfl) .nil), rfl, rfl, rfl, rfl, rfl⟩
        · have h := iteF hb15 h
          refine ACode_skip ?_
          refine (ACode_region ?_)
          refine AOps_q 32 _ rfl rfl rfl (QOp_add _ _ _ _ _ _ _ rfl rfl rfl) ?_
          refine AOps_q 25 _ rfl rfl rfl (QOp_move _ _ rfl rfl) ?_
          refine AOps_nil ?_
          exact ⟨k0, _, _, Nat.lt_succ_self _, Weak_keep 0 hm [3, 24, 25] [0] _ _ rfl rfl rfl, _, rfl, rfl, h⟩
      · have h := iteF hb13 h
        refine ACode_exit ?_
        cases h
        exact ⟨_, rfl, Weak_keep 0 hm [3] [0] _ _ rfl rfl rfl⟩
  rintro E' H' ⟨s16, rfl, hw⟩
  refine ACode_weak hw ?_
  have h := hks16
  refine ACode_seq (ACode_region ?_)
  refine AOps_q 33 _ rfl rfl rfl (QOp_move _ _ rfl rfl) ?_
  refine AOps_q 34 _ rfl rfl rfl (QOp_len_vec _ _ _ _ _ _ _ _ (rowsD_length _) rfl rfl rfl rfl Tryd.underlying82 rfl rfl) ?_
  refine AOps_q 35 _ rfl rfl rfl (QOp_eql _ _ _ _ _ _ _ rfl rfl rfl) ?_
  refine AOps_q 2 _ rfl rfl rfl (QOp_assign _ _ rfl rfl) ?_
  refine AOps_nil ?_
  refine ACode_ret ?_
  cases h
  exact ⟨_, _, fun r a w h => ⟨r, h⟩, _, _, [], _, (.cons (ResV_tmp _ _ rfl) .nil), rfl, rfl, rfl, rfl, rfl⟩

-- (loop.example/g01362/impl.position).code
def impl_position_code (k : Nat) (p0 : Pos) (p1 : Option (Bool)) : Option (Int) :=
  (((impl_position_isShape k p0).bind fun r1 => (if !r1 then some true else (p1).bind fun r3 => some (!r3)) : Option (Bool)).bind fun s4 => (if s4 then some (.inr 2) else (impl_position_isPosition k p0).bind fun r6 => (if !r6 then some (.inr 1) else some (.inl ()))) : Option (Sum (Unit) (Int))).bind fun os8 => (match os8 with | .inl s8 => some 0 | .inr rr => some rr)
set_option maxRecDepth 100000 in
theorem impl_position_code_ac (k : Nat) (p0 : Pos) (p1 : Option (Bool)) (g_p1 : FuncId) (c_p1 : List D) (hg_p1 : ∀ args w, (callFunc g_p1 args).run Tryd.prog w = .ok (.enter g_p1 args) w) (hf_p1 : ∀ (r : Bool), p1 = some r → AC Tryd.prog g_p1 ([] ++ c_p1.map AV.d) [] (fun res H' => res = [bV r] ∧ H' = [])) (r : Int) (h : impl_position_code k p0 p1 = some r) : AC Tryd.prog 25 [.d (.agg (posD p0)), .d (.clo g_p1 c_p1)] [] (fun res H' => res = [iV r] ∧ H' = []) := by
  refine AC_of_body true Tryd.func25 rfl Tryd.ntmps25 (rvs := [.tmp 4]) rfl rfl (fun G hG => ?_)
  have hm : G.H.length = 0 := by rw [hG]; rfl
  have hz : zeroG G.H = true := by rw [hG]; rfl
  unfold impl_position_code at h
  refine ACode_seq (ACode_region ?_)
  refine AOps_boxI 2 _ _ (.agg (posD p0)) (posD p0) rfl (posD_one _) rfl rfl rfl rfl rfl ?_
  refine AOps_q 4 _ rfl rfl rfl (QOp_assign _ _ rfl rfl) ?_
  refine AOps_nil ?_
  obtain ⟨os8, hss8, hks8⟩ := bindO h
  clear h
  refine ACode_seqJ (fun E' H' => ∃ s8 : Unit, os8 = .inl s8 ∧ Weak 18 G E' H' [] []) ?_ ?_
  · have h := hss8
    clear hss8
    refine ACode_block ?_
    obtain ⟨s4, hss4, hks4⟩ := bindO h
    clear h
    refine ACode_seqJ (fun E' H' => Weak 18 G E' H' [(2, .d (.pv (posD p0) 0)), (5, bV s4)] []) ?_ ?_
    · have h := hss4
      clear hss4
      refine (ACode_region ?_)
      refine AOps_q 6 _ rfl rfl rfl (QOp_loadN_pv _ _ _ _ _ _ rfl Tryd.isAgg48 Tryd.sizeOf48 rfl (posD_all _) (posD_length _)) ?_
      obtain ⟨r1, hr1, h⟩ := bindO h
      refine AOps_call [] 7 _ _ _ _ _ _ _ _ _ _ rfl rfl rfl rfl rfl rfl rfl Tryd.call41 rfl (nodupB_sound _ rfl) rfl rfl rfl (impl_position_isShape_ac k p0 _ hr1) ?_
      rintro _ _ ⟨rfl, rfl⟩
      refine ⟨(fun _ h => nomatch h), (allc (trivial) (fun _ h => nomatch h)), AOps_as 7 (v' := bV r1) (H' := []) rfl rfl ?_⟩
      refine AOps_q 8 _ rfl rfl rfl (QOp_not _ _ _ rfl rfl) ?_
      refine AOps_q 9 _ rfl rfl rfl (QOp_move _ _ rfl rfl) ?_
      refine AOps_case 9 _ rfl (fun hb2 => ?_) (fun hb2 => ?_)
      · have h := iteT hb2 h
        refine AOps_skip 10 rfl rfl rfl ?_
        refine AOps_skip 11 rfl rfl rfl ?_
        refine AOps_skip 12 rfl rfl rfl ?_
        refine AOps_q 13 _ rfl rfl rfl (QOp_pick_t _ _ _ _ rfl rfl rfl) ?_
        refine AOps_q 5 _ rfl rfl rfl (QOp_assign _ _ rfl rfl) ?_
        refine AOps_nil ?_
        cases h
        exact Weak_keep 0 hm [2, 5] [] _ _ rfl rfl rfl
      · have h := iteF hb2 h
        refine AOps_q 10 _ rfl rfl rfl (QOp_move _ _ rfl rfl) ?_
        obtain ⟨r3, hr3, h⟩ := bindO h
        refine AOps_call [] 11 _ _ _ _ _ _ _ _ _ _ rfl rfl rfl rfl rfl rfl rfl hg_p1 rfl (nodupB_sound _ rfl) rfl rfl (viewA_mapD _) (hf_p1 _ hr3) ?_
        rintro _ _ ⟨rfl, rfl⟩
        refine ⟨(fun _ h => nomatch h), (allc (trivial) (fun _ h => nomatch h)), AOps_as 11 (v' := bV r3) (H' := []) rfl rfl ?_⟩
        refine AOps_q 12 _ rfl rfl rfl (QOp_not _ _ _ rfl rfl) ?_
        refine AOps_q 13 _ rfl rfl rfl (QOp_pick_f _ _ _ _ rfl rfl rfl) ?_
        refine AOps_q 5 _ rfl rfl rfl (QOp_assign _ _ rfl rfl) ?_
        refine AOps_nil ?_
        cases h
        exact Weak_keep 0 hm [2, 5] [] _ _ rfl rfl rfl
    intro E' H' hw
    refine ACode_weak hw ?_
    have h := hks4
    refine ACode_cond _ rfl (fun hb5 => ?_) (fun hb5 => ?_)
    · have h := iteT hb5 h
      refine ACode_seq (ACode_region ?_)
      refine AOps_q 4 _ rfl rfl rfl (QOp_assign _ _ rfl rfl) ?_
      refine AOps_nil ?_
      refine ACode_ret ?_
      cases h
      have h := hks8
      cases h
      exact ⟨_, _, fun r a w h => ⟨r, h⟩, _, _, [], _, (.cons (ResV_tmp _ _ rfl) .nil), rfl, rfl, rfl, rfl, rfl⟩
    · have h := iteF hb5 h
      refine ACode_seq (ACode_region ?_)
      refine AOps_q 15 _ rfl rfl rfl (QOp_loadN_pv _ _ _ _ _ _ rfl Tryd.isAgg48 Tryd.sizeOf48 rfl (posD_all _) (posD_length _)) ?_
      obtain ⟨r6, hr6, h⟩ := bindO h
      refine AOps_call [] 16 _ _ _ _ _ _ _ _ _ _ rfl rfl rfl rfl rfl rfl rfl Tryd.call42 rfl (nodupB_sound _ rfl) rfl rfl rfl (impl_position_isPosition_ac k p0 _ hr6) ?_
      rintro _ _ ⟨rfl, rfl⟩
      refine ⟨(fun _ h => nomatch h), (allc (trivial) (fun _ h => nomatch h)), AOps_as 16 (v' := bV r6) (H' := []) rfl rfl ?_⟩
      refine AOps_q 17 _ rfl rfl rfl (QOp_not _ _ _ rfl rfl) ?_
      refine AOps_q 14 _ rfl rfl rfl (QOp_assign _ _ rfl rfl) ?_
      refine AOps_nil ?_
      refine ACode_cond _ rfl (fun hb7 => ?_) (fun hb7 => ?_)
      · have h := iteT hb7 h
        refine ACode_seq (ACode_region ?_)
        refine AOps_q 4 _ rfl rfl rfl (QOp_assign _ _ rfl rfl) ?_
        refine AOps_nil ?_
        refine ACode_ret ?_
        cases h
        have h := hks8
        cases h
        exact ⟨_, _, fun r a w h => ⟨r, h⟩, _, _, [], _, (.cons (ResV_tmp _ _ rfl) .nil), rfl, rfl, rfl, rfl, rfl⟩
      · have h := iteF hb7 h
        refine ACode_skip ?_
        cases h
        exact ⟨_, rfl, Weak_keep 0 hm [] [] _ _ rfl rfl rfl⟩
  rintro E' H' ⟨s8, rfl, hw⟩
  refine ACode_weak hw ?_
  have h := hks8
  refine ACode_seq (ACode_region ?_)
  refine AOps_q 4 _ rfl rfl rfl (QOp_assign _ _ rfl rfl) ?_
  refine AOps_nil ?_
  refine ACode_ret ?_
  cases h
  exact ⟨_, _, fun r a w h => ⟨r, h⟩, _, _, [], _, (.cons (ResV_tmp _ _ rfl) .nil), rfl, rfl, rfl, rfl, rfl⟩

-- loop.example/g01362/impl.always
def impl_always : Bool :=
  true
set_option maxRecDepth 100000 in
theorem impl_always_ac : AC Tryd.prog 21 [] [] (fun res H' => res = [bV (impl_always)] ∧ H' = []) := by
  refine AC_of_body true Tryd.func21 rfl Tryd.ntmps21 (rvs := [.tmp 0]) rfl rfl (fun G hG => ?_)
  have hm : G.H.length = 0 := by rw [hG]; rfl
  have hz : zeroG G.H = true := by rw [hG]; rfl
  obtain ⟨r, h⟩ : ∃ r, impl_always = r := ⟨_, rfl⟩
  rw [h]
  unfold impl_always at h
  refine ACode_seq (ACode_region ?_)
  refine AOps_q 0 _ rfl rfl rfl (QOp_assign _ _ rfl rfl) ?_
  refine AOps_nil ?_
  refine ACode_seq (ACode_region ?_)
  refine AOps_q 0 _ rfl rfl rfl (QOp_assign _ _ rfl rfl) ?_
  refine AOps_nil ?_
  refine ACode_ret ?_
  cases h
  exact ⟨_, _, fun r a w h => ⟨r, h⟩, _, _, [], _, (.cons (ResV_tmp _ _ rfl) .nil), rfl, rfl, rfl, rfl, rfl⟩

-- internal/strconv.small
def internal_strconv_small (p0 : Int) : Option (ByteArray) :=
  (if decide (p0 < 10) then (if 0 ≤ p0 ∧ p0 ≤ w64 (p0 + 1) ∧ w64 (p0 + 1) ≤ (((⟨#[48, 49, 50, 51, 52, 53, 54, 55, 56, 57, 97, 98, 99, 100, 101, 102, 103, 104, 105, 106, 107, 108, 109, 110, 111, 112, 113, 114, 115, 116, 117, 118, 119, 120, 121, 122]⟩ : ByteArray) : ByteArray).size : Int) then some (((⟨#[48, 49, 50, 51, 52, 53, 54, 55, 56, 57, 97, 98, 99, 100, 101, 102, 103, 104, 105, 106, 107, 108, 109, 110, 111, 112, 113, 114, 115, 116, 117, 118, 119, 120, 121, 122]⟩ : ByteArray) : ByteArray).extract (p0.toNat) ((w64 (p0 + 1)).toNat)) else none) else (if 0 ≤ w64 (p0 * 2) ∧ w64 (p0 * 2) ≤ w64 ((w64 (p0 * 2)) + 2) ∧ w64 ((w64 (p0 * 2)) + 2) ≤ (((⟨#[48, 48, 48, 49, 48, 50, 48, 51, 48, 52, 48, 53, 48, 54, 48, 55, 48, 56, 48, 57, 49, 48, 49, 49, 49, 50, 49, 51, 49, 52, 49, 53, 49, 54, 49, 55, 49, 56, 49, 57, 50, 48, 50, 49, 50, 50, 50, 51, 50, 52, 50, 53, 50, 54, 50, 55, 50, 56, 50, 57, 51, 48, 51, 49, 51, 50, 51, 51, 51, 52, 51, 53, 51, 54, 51, 55, 51, 56, 51, 57, 52, 48, 52, 49, 52, 50, 52, 51, 52, 52, 52, 53, 52, 54, 52, 55, 52, 56, 52, 57, 53, 48, 53, 49, 53, 50, 53, 51, 53, 52, 53, 53, 53, 54, 53, 55, 53, 56, 53, 57, 54, 48, 54, 49, 54, 50, 54, 51, 54, 52, 54, 53, 54, 54, 54, 55, 54, 56, 54, 57, 55, 48, 55, 49, 55, 50, 55, 51, 55, 52, 55, 53, 55, 54, 55, 55, 55, 56, 55, 57, 56, 48, 56, 49, 56, 50, 56, 51, 56, 52, 56, 53, 56, 54, 56, 55, 56, 56, 56, 57, 57, 48, 57, 49, 57, 50, 57, 51, 57, 52, 57, 53, 57, 54, 57, 55, 57, 56, 57, 57]⟩ : ByteArray) : ByteArray).size : Int) then some (((⟨#[48, 48, 48, 49, 48, 50, 48, 51, 48, 52, 48, 53, 48, 54, 48, 55, 48, 56, 48, 57, 49, 48, 49, 49, 49, 50, 49, 51, 49, 52, 49, 53, 49, 54, 49, 55, 49, 56, 49, 57, 50, 48, 50, 49, 50, 50, 50, 51, 50, 52, 50, 53, 50, 54, 50, 55, 50, 56, 50, 57, 51, 48, 51, 49, 51, 50, 51, 51, 51, 52, 51, 53, 51, 54, 51, 55, 51, 56, 51, 57, 52, 48, 52, 49, 52, 50, 52, 51, 52, 52, 52, 53, 52, 54, 52, 55, 52, 56, 52, 57, 53, 48, 53, 49, 53, 50, 53, 51, 53, 52, 53, 53, 53, 54, 53, 55, 53, 56, 53, 57, 54, 48, 54, 49, 54, 50, 54, 51, 54, 52, 54, 53, 54, 54, 54, 55, 54, 56, 54, 57, 55, 48, 55, 49, 55, 50, 55, 51, 55, 52, 55, 53, 55, 54, 55, 55, 55, 56, 55, 57, 56, 48, 56, 49, 56, 50, 56, 51, 56, 52, 56, 53, 56, 54, 56, 55, 56, 56, 56, 57, 57, 48, 57, 49, 57, 50, 57, 51, 57, 52, 57, 53, 57, 54, 57, 55, 57, 56, 57, 57]⟩ : ByteArray) : ByteArray).extract ((w64 (p0 * 2)).toNat) ((w64 ((w64 (p0 * 2)) + 2)).toNat)) else none))
set_option maxRecDepth 100000 in
theorem internal_strconv_small_ac (p0 : Int) (r : ByteArray) (h : internal_strconv_small p0 = some r) : AC Tryd.prog 79 [iV p0] [] (fun res H' => res = [.d (.s (.string r))] ∧ H' = []) := by
  refine AC_of_body true Tryd.func79 rfl Tryd.ntmps79 (rvs := [.tmp 2]) rfl rfl (fun G hG => ?_)
  have hm : G.H.length = 0 := by rw [hG]; rfl
  have hz : zeroG G.H = true := by rw [hG]; rfl
  unfold internal_strconv_small at h
  refine ACode_seq (ACode_region ?_)
  refine AOps_q 2 _ rfl rfl rfl (QOp_assign _ _ rfl rfl) ?_
  refine AOps_nil ?_
  refine ACode_seq ?_
  refine ACode_seq (ACode_region ?_)
  refine AOps_q 3 _ rfl rfl rfl (QOp_move _ _ rfl rfl) ?_
  refine AOps_q 4 _ rfl rfl rfl (QOp_lss _ _ _ _ _ _ _ rfl rfl rfl) ?_
  refine AOps_nil ?_
  refine ACode_cond _ rfl (fun hb1 => ?_) (fun hb1 => ?_)
  · have h := iteT hb1 h
    refine ACode_seq (ACode_region ?_)
    refine AOps_q 5 _ rfl rfl rfl (QOp_move _ _ rfl rfl) ?_
    refine AOps_q 6 _ rfl rfl rfl (QOp_move _ _ rfl rfl) ?_
    refine AOps_q 7 _ rfl rfl rfl (QOp_add _ _ _ _ _ _ _ rfl rfl rfl) ?_
    obtain ⟨hc2, h⟩ := guardO h
    refine AOps_q 8 _ rfl rfl rfl (QOp_sslice _ _ _ _ _ (p0.toNat) ((w64 (p0 + 1)).toNat) rfl Tryd.underlying9 rfl ⟨_, by rw [Int.toNat_of_nonneg (by omega)]; rfl⟩ ⟨_, by rw [Int.toNat_of_nonneg (by omega)]; rfl⟩ (Int.toNat_le_toNat hc2.2.1) (Int.toNat_le.2 hc2.2.2)) ?_
    refine AOps_q 2 _ rfl rfl rfl (QOp_assign _ _ rfl rfl) ?_
    refine AOps_nil ?_
    refine ACode_ret ?_
    cases h
    exact ⟨_, _, fun r a w h => ⟨r, h⟩, _, _, [], _, (.cons (ResV_tmp _ _ rfl) .nil), rfl, rfl, rfl, rfl, rfl⟩
  · have h := iteF hb1 h
    refine ACode_skip ?_
    refine ACode_seq (ACode_region ?_)
    refine AOps_q 9 _ rfl rfl rfl (QOp_move _ _ rfl rfl) ?_
    refine AOps_q 10 _ rfl rfl rfl (QOp_mul _ _ _ _ _ _ _ rfl rfl rfl) ?_
    refine AOps_q 11 _ rfl rfl rfl (QOp_move _ _ rfl rfl) ?_
    refine AOps_q 12 _ rfl rfl rfl (QOp_mul _ _ _ _ _ _ _ rfl rfl rfl) ?_
    refine AOps_q 13 _ rfl rfl rfl (QOp_add _ _ _ _ _ _ _ rfl rfl rfl) ?_
    obtain ⟨hc3, h⟩ := guardO h
    refine AOps_q 14 _ rfl rfl rfl (QOp_sslice _ _ _ _ _ ((w64 (p0 * 2)).toNat) ((w64 ((w64 (p0 * 2)) + 2)).toNat) rfl Tryd.underlying9 rfl ⟨_, by rw [Int.toNat_of_nonneg (by omega)]; rfl⟩ ⟨_, by rw [Int.toNat_of_nonneg (by omega)]; rfl⟩ (Int.toNat_le_toNat hc3.2.1) (Int.toNat_le.2 hc3.2.2)) ?_
    refine AOps_q 2 _ rfl rfl rfl (QOp_assign _ _ rfl rfl) ?_
    refine AOps_nil ?_
    refine ACode_ret ?_
    cases h
    exact ⟨_, _, fun r a w h => ⟨r, h⟩, _, _, [], _, (.cons (ResV_tmp _ _ rfl) .nil), rfl, rfl, rfl, rfl, rfl⟩

-- internal/strconv.formatBits
def internal_strconv_formatBits (p0 : List UInt8) (p1 : Int) (p2 : Int) (p3 : Bool) (p4 : Bool) : Option (List UInt8 × ByteArray) :=
  (letO (if decide (p2 < 2) then true else (if decide (p2 = 10) then true else decide (36 < p2))) fun (s3 : Bool) => (if s3 then none else some ()) : Option (Unit)).bind fun s5 => none
set_option maxRecDepth 100000 in
theorem internal_strconv_formatBits_ac (p0 : List UInt8) (p1 : Int) (p2 : Int) (p3 : Bool) (p4 : Bool) (r : List UInt8 × ByteArray) (h : internal_strconv_formatBits p0 p1 p2 p3 p4 = some r) : AC Tryd.prog 82 [.d (.sl none (bysD p0)), .d (.s (.int .u64 p1)), iV p2, bV p3, bV p4] [] (fun res H' => res = [.d (.sl none (bysD r.1)), .d (.s (.string r.2))] ∧ H' = []) := by
  refine AC_of_body true Tryd.func82 rfl Tryd.ntmps82 (rvs := [.tmp 10, .tmp 11]) rfl rfl (fun G hG => ?_)
  have hm : G.H.length = 0 := by rw [hG]; rfl
  have hz : zeroG G.H = true := by rw [hG]; rfl
  unfold internal_strconv_formatBits at h
  refine ACode_seq (ACode_region ?_)
  refine AOps_q 10 _ rfl rfl rfl (QOp_assign _ _ rfl rfl) ?_
  refine AOps_q 11 _ rfl rfl rfl (QOp_assign _ _ rfl rfl) ?_
  refine AOps_nil ?_
  obtain ⟨s5, hss5, hks5⟩ := bindO h
  clear h
  refine ACode_seqJ (fun E' H' => Weak 102 G E' H' [(0, .d (.sl none (bysD p0))), (1, .d (.s (.int .u64 p1))), (2, iV p2), (3, bV p3), (4, bV p4), (10, .d (.sl (some true) [])), (11, .d (.s (.string (⟨#[]⟩ : ByteArray))))] []) ?_ ?_
  · have h := hss5
    clear hss5
    obtain ⟨s3, hss3, hks3⟩ := letS h
    clear h
    refine ACode_seqJ (fun E' H' => Weak 102 G E' H' [(0, .d (.sl none (bysD p0))), (1, .d (.s (.int .u64 p1))), (2, iV p2), (3, bV p3), (4, bV p4), (10, .d (.sl (some true) [])), (11, .d (.s (.string (⟨#[]⟩ : ByteArray)))), (28, bV s3)] []) ?_ ?_
    · have h := hss3
      clear hss3
      refine (ACode_region ?_)
      refine AOps_q 19 _ rfl rfl rfl (QOp_move _ _ rfl rfl) ?_
      refine AOps_q 20 _ rfl rfl rfl (QOp_lss _ _ _ _ _ _ _ rfl rfl rfl) ?_
      refine AOps_q 21 _ rfl rfl rfl (QOp_move _ _ rfl rfl) ?_
      refine AOps_case 21 _ rfl (fun hb1 => ?_) (fun hb1 => ?_)
      · have h := iteT hb1 h
        refine AOps_skip 22 rfl rfl rfl ?_
        refine AOps_skip 23 rfl rfl rfl ?_
        refine AOps_q 24 _ rfl rfl rfl (QOp_pick_t _ _ _ _ rfl rfl rfl) ?_
        refine AOps_q 25 _ rfl rfl rfl (QOp_move _ _ rfl rfl) ?_
        refine AOps_skip 26 rfl rfl rfl ?_
        refine AOps_skip 27 rfl rfl rfl ?_
        refine AOps_q 28 _ rfl rfl rfl (QOp_pick_t _ _ _ _ rfl rfl rfl) ?_
        refine AOps_nil ?_
        cases h
        exact Weak_keep 0 hm [0, 1, 2, 3, 4, 10, 11, 28] [] _ _ rfl rfl rfl
      · have h := iteF hb1 h
        refine AOps_q 22 _ rfl rfl rfl (QOp_move _ _ rfl rfl) ?_
        refine AOps_q 23 _ rfl rfl rfl (QOp_eql _ _ _ _ _ _ _ rfl rfl rfl) ?_
        refine AOps_q 24 _ rfl rfl rfl (QOp_pick_f _ _ _ _ rfl rfl rfl) ?_
        refine AOps_q 25 _ rfl rfl rfl (QOp_move _ _ rfl rfl) ?_
        refine AOps_case 25 _ rfl (fun hb2 => ?_) (fun hb2 => ?_)
        · have h := iteT hb2 h
          refine AOps_skip 26 rfl rfl rfl ?_
          refine AOps_skip 27 rfl rfl rfl ?_
          refine AOps_q 28 _ rfl rfl rfl (QOp_pick_t _ _ _ _ rfl rfl rfl) ?_
          refine AOps_nil ?_
          cases h
          exact Weak_keep 0 hm [0, 1, 2, 3, 4, 10, 11, 28] [] _ _ rfl rfl rfl
        · have h := iteF hb2 h
          refine AOps_q 26 _ rfl rfl rfl (QOp_move _ _ rfl rfl) ?_
          refine AOps_q 27 _ rfl rfl rfl (QOp_gtr _ _ _ _ _ _ _ rfl rfl rfl) ?_
          refine AOps_q 28 _ rfl rfl rfl (QOp_pick_f _ _ _ _ rfl rfl rfl) ?_
          refine AOps_nil ?_
          cases h
          exact Weak_keep 0 hm [0, 1, 2, 3, 4, 10, 11, 28] [] _ _ rfl rfl rfl
    intro E' H' hw
    refine ACode_weak hw ?_
    have h := hks3
    refine ACode_cond _ rfl (fun hb4 => ?_) (fun hb4 => ?_)
    · have h := iteT hb4 h
      refine (ACode_region ?_)
      cases h
    · have h := iteF hb4 h
      refine ACode_skip ?_
      cases h
      exact Weak_keep 0 hm [0, 1, 2, 3, 4, 10, 11] [] _ _ rfl rfl rfl
  intro E' H' hw
  refine ACode_weak hw ?_
  have h := hks5
  cases h

-- internal/strconv.FormatInt
def internal_strconv_FormatInt (p0 : Int) (p1 : Int) : Option (ByteArray) :=
  (if decide (p1 = 10) then (letO (if decide (0 ≤ p0) then decide (p0 < 100) else false) fun (s3 : Bool) => (if s3 then (internal_strconv_small p0).bind fun r5 => some (.inr r5) else some (.inl ())) : Option (Sum (Unit) (ByteArray))).bind fun os6 => (match os6 with | .inl s6 => none | .inr rr => some rr) else (internal_strconv_formatBits ([]) (IntKind.u64.wrap p0) p1 (decide (p0 < 0)) false).bind fun r7 => some r7.2)
set_option maxRecDepth 100000 in
theorem internal_strconv_FormatInt_ac (p0 : Int) (p1 : Int) (r : ByteArray) (h : internal_strconv_FormatInt p0 p1 = some r) : AC Tryd.prog 65 [iV p0, iV p1] [] (fun res H' => res = [.d (.s (.string r))] ∧ H' = []) := by
  refine AC_of_body true Tryd.func65 rfl Tryd.ntmps65 (rvs := [.tmp 4]) rfl rfl (fun G hG => ?_)
  have hm : G.H.length = 0 := by rw [hG]; rfl
  have hz : zeroG G.H = true := by rw [hG]; rfl
  unfold internal_strconv_FormatInt at h
  refine ACode_seq (ACode_region ?_)
  refine AOps_q 4 _ rfl rfl rfl (QOp_assign _ _ rfl rfl) ?_
  refine AOps_nil ?_
  refine ACode_seq ?_
  refine ACode_seq (ACode_region ?_)
  refine AOps_q 10 _ rfl rfl rfl (QOp_move _ _ rfl rfl) ?_
  refine AOps_q 11 _ rfl rfl rfl (QOp_eql _ _ _ _ _ _ _ rfl rfl rfl) ?_
  refine AOps_nil ?_
  refine ACode_cond _ rfl (fun hb1 => ?_) (fun hb1 => ?_)
  · have h := iteT hb1 h
    obtain ⟨os6, hss6, hks6⟩ := bindO h
    clear h
    refine ACode_seqJ (fun E' H' => ∃ s6 : Unit, os6 = .inl s6 ∧ Weak 54 G E' H' [(0, iV p0)] []) ?_ ?_
    · have h := hss6
      clear hss6
      obtain ⟨s3, hss3, hks3⟩ := letS h
      clear h
      refine ACode_seqJ (fun E' H' => Weak 54 G E' H' [(0, iV p0), (17, bV s3)] []) ?_ ?_
      · have h := hss3
        clear hss3
        refine (ACode_region ?_)
        refine AOps_q 12 _ rfl rfl rfl (QOp_move _ _ rfl rfl) ?_
        refine AOps_q 13 _ rfl rfl rfl (QOp_leq _ _ _ _ _ _ _ rfl rfl rfl) ?_
        refine AOps_q 14 _ rfl rfl rfl (QOp_move _ _ rfl rfl) ?_
        refine AOps_case 14 _ rfl (fun hb2 => ?_) (fun hb2 => ?_)
        · have h := iteT hb2 h
          refine AOps_q 15 _ rfl rfl rfl (QOp_move _ _ rfl rfl) ?_
          refine AOps_q 16 _ rfl rfl rfl (QOp_lss _ _ _ _ _ _ _ rfl rfl rfl) ?_
          refine AOps_q 17 _ rfl rfl rfl (QOp_pick_t _ _ _ _ rfl rfl rfl) ?_
          refine AOps_nil ?_
          cases h
          exact Weak_keep 0 hm [0, 17] [] _ _ rfl rfl rfl
        · have h := iteF hb2 h
          refine AOps_skip 15 rfl rfl rfl ?_
          refine AOps_skip 16 rfl rfl rfl ?_
          refine AOps_q 17 _ rfl rfl rfl (QOp_pick_f _ _ _ _ rfl rfl rfl) ?_
          refine AOps_nil ?_
          cases h
          exact Weak_keep 0 hm [0, 17] [] _ _ rfl rfl rfl
      intro E' H' hw
      refine ACode_weak hw ?_
      have h := hks3
      refine ACode_cond _ rfl (fun hb4 => ?_) (fun hb4 => ?_)
      · have h := iteT hb4 h
        refine ACode_seq (ACode_region ?_)
        refine AOps_q 18 _ rfl rfl rfl (QOp_move _ _ rfl rfl) ?_
        obtain ⟨r5, hr5, h⟩ := bindO h
        refine AOps_call [] 19 _ _ _ _ _ _ _ _ _ _ rfl rfl rfl rfl rfl rfl rfl Tryd.call79 rfl (nodupB_sound _ rfl) rfl rfl rfl (internal_strconv_small_ac p0 _ hr5) ?_
        rintro _ _ ⟨rfl, rfl⟩
        refine ⟨(fun _ h => nomatch h), (allc (trivial) (fun _ h => nomatch h)), AOps_as 19 (v' := .d (.s (.string r5))) (H' := []) rfl rfl ?_⟩
        refine AOps_q 4 _ rfl rfl rfl (QOp_assign _ _ rfl rfl) ?_
        refine AOps_nil ?_
        refine ACode_ret ?_
        cases h
        have h := hks6
        cases h
        exact ⟨_, _, fun r a w h => ⟨r, h⟩, _, _, [], _, (.cons (ResV_tmp _ _ rfl) .nil), rfl, rfl, rfl, rfl, rfl⟩
      · have h := iteF hb4 h
        refine ACode_skip ?_
        cases h
        exact ⟨_, rfl, Weak_keep 0 hm [0] [] _ _ rfl rfl rfl⟩
    rintro E' H' ⟨s6, rfl, hw⟩
    refine ACode_weak hw ?_
    have h := hks6
    cases h
  · have h := iteF hb1 h
    refine ACode_skip ?_
    refine ACode_seq (ACode_region ?_)
    refine AOps_q 45 _ rfl rfl rfl (QOp_move _ _ rfl rfl) ?_
    refine AOps_q 46 _ rfl rfl rfl (QOp_conv _ _ _ _ _ _ rfl rfl Tryd.underlying91 rfl) ?_
    refine AOps_q 47 _ rfl rfl rfl (QOp_move _ _ rfl rfl) ?_
    refine AOps_q 48 _ rfl rfl rfl (QOp_move _ _ rfl rfl) ?_
    refine AOps_q 49 _ rfl rfl rfl (QOp_lss _ _ _ _ _ _ _ rfl rfl rfl) ?_
    obtain ⟨r7, hr7, h⟩ := bindO h
    refine AOps_call [] 50 _ _ _ _ _ _ _ _ _ _ rfl rfl rfl rfl rfl rfl rfl Tryd.call82 rfl (nodupB_sound _ rfl) rfl rfl rfl (internal_strconv_formatBits_ac ([]) (IntKind.u64.wrap p0) p1 (decide (p0 < 0)) false _ hr7) ?_
    rintro _ _ ⟨rfl, rfl⟩
    refine ⟨(fun _ h => nomatch h), (allc (trivial) (allc (trivial) (fun _ h => nomatch h))), AOps_as 50 (v' := .tup [.d (.sl none (bysD r7.1)), .d (.s (.string r7.2))]) (H' := []) rfl rfl ?_⟩
    refine AOps_q 44 _ rfl rfl rfl (QOp_move _ _ rfl rfl) ?_
    refine AOps_q 51 _ rfl rfl rfl (QOp_extract _ _ _ _ rfl rfl rfl) ?_
    refine AOps_q 52 _ rfl rfl rfl (QOp_extract _ _ _ _ rfl rfl rfl) ?_
    refine AOps_q 8 _ rfl rfl rfl (QOp_assign _ _ rfl rfl) ?_
    refine AOps_q 9 _ rfl rfl rfl (QOp_assign _ _ rfl rfl) ?_
    refine AOps_nil ?_
    refine ACode_seq (ACode_region ?_)
    refine AOps_q 53 _ rfl rfl rfl (QOp_move _ _ rfl rfl) ?_
    refine AOps_q 4 _ rfl rfl rfl (QOp_assign _ _ rfl rfl) ?_
    refine AOps_nil ?_
    refine ACode_ret ?_
    cases h
    exact ⟨_, _, fun r a w h => ⟨r, h⟩, _, _, [], _, (.cons (ResV_tmp _ _ rfl) .nil), rfl, rfl, rfl, rfl, rfl⟩

-- strconv.FormatInt
def strconv_FormatInt (p0 : Int) (p1 : Int) : Option (ByteArray) :=
  (internal_strconv_FormatInt p0 p1).bind fun r1 => some r1
set_option maxRecDepth 100000 in
theorem strconv_FormatInt_ac (p0 : Int) (p1 : Int) (r : ByteArray) (h : strconv_FormatInt p0 p1 = some r) : AC Tryd.prog 43 [iV p0, iV p1] [] (fun res H' => res = [.d (.s (.string r))] ∧ H' = []) := by
  refine AC_of_body true Tryd.func43 rfl Tryd.ntmps43 (rvs := [.tmp 4]) rfl rfl (fun G hG => ?_)
  have hm : G.H.length = 0 := by rw [hG]; rfl
  have hz : zeroG G.H = true := by rw [hG]; rfl
  unfold strconv_FormatInt at h
  refine ACode_seq (ACode_region ?_)
  refine AOps_q 4 _ rfl rfl rfl (QOp_assign _ _ rfl rfl) ?_
  refine AOps_nil ?_
  refine ACode_seq (ACode_region ?_)
  refine AOps_q 5 _ rfl rfl rfl (QOp_move _ _ rfl rfl) ?_
  refine AOps_q 6 _ rfl rfl rfl (QOp_move _ _ rfl rfl) ?_
  obtain ⟨r1, hr1, h⟩ := bindO h
  refine AOps_call [] 7 _ _ _ _ _ _ _ _ _ _ rfl rfl rfl rfl rfl rfl rfl Tryd.call65 rfl (nodupB_sound _ rfl) rfl rfl rfl (internal_strconv_FormatInt_ac p0 p1 _ hr1) ?_
  rintro _ _ ⟨rfl, rfl⟩
  refine ⟨(fun _ h => nomatch h), (allc (trivial) (fun _ h => nomatch h)), AOps_as 7 (v' := .d (.s (.string r1))) (H' := []) rfl rfl ?_⟩
  refine AOps_q 4 _ rfl rfl rfl (QOp_assign _ _ rfl rfl) ?_
  refine AOps_nil ?_
  refine ACode_ret ?_
  cases h
  exact ⟨_, _, fun r a w h => ⟨r, h⟩, _, _, [], _, (.cons (ResV_tmp _ _ rfl) .nil), rfl, rfl, rfl, rfl, rfl⟩

-- loop.example/g01362/impl.decimal
def impl_decimal (p0 : Int) : Option (ByteArray) :=
  (strconv_FormatInt p0 10).bind fun r1 => some r1
set_option maxRecDepth 100000 in
theorem impl_decimal_ac (p0 : Int) (r : ByteArray) (h : impl_decimal p0 = some r) : AC Tryd.prog 26 [iV p0] [] (fun res H' => res = [.d (.s (.string r))] ∧ H' = []) := by
  refine AC_of_body true Tryd.func26 rfl Tryd.ntmps26 (rvs := [.tmp 2]) rfl rfl (fun G hG => ?_)
  have hm : G.H.length = 0 := by rw [hG]; rfl
  have hz : zeroG G.H = true := by rw [hG]; rfl
  unfold impl_decimal at h
  refine ACode_seq (ACode_region ?_)
  refine AOps_q 2 _ rfl rfl rfl (QOp_assign _ _ rfl rfl) ?_
  refine AOps_nil ?_
  refine ACode_seq (ACode_region ?_)
  refine AOps_q 3 _ rfl rfl rfl (QOp_move _ _ rfl rfl) ?_
  obtain ⟨r1, hr1, h⟩ := bindO h
  refine AOps_call [] 4 _ _ _ _ _ _ _ _ _ _ rfl rfl rfl rfl rfl rfl rfl Tryd.call43 rfl (nodupB_sound _ rfl) rfl rfl rfl (strconv_FormatInt_ac p0 10 _ hr1) ?_
  rintro _ _ ⟨rfl, rfl⟩
  refine ⟨(fun _ h => nomatch h), (allc (trivial) (fun _ h => nomatch h)), AOps_as 4 (v' := .d (.s (.string r1))) (H' := []) rfl rfl ?_⟩
  refine AOps_q 2 _ rfl rfl rfl (QOp_assign _ _ rfl rfl) ?_
  refine AOps_nil ?_
  refine ACode_ret ?_
  cases h
  exact ⟨_, _, fun r a w h => ⟨r, h⟩, _, _, [], _, (.cons (ResV_tmp _ _ rfl) .nil), rfl, rfl, rfl, rfl, rfl⟩

-- (loop.example/g01362/impl.position).key
def impl_position_key_l0 (p0 : Pos) : Nat → Int → (List UInt8) → Option (List UInt8)
  | 0, _, _ => none
  | k0 + 1, x1, x2 => (if decide (x1 < (p0.l.length : Int)) then (if 0 ≤ x1 ∧ x1 < (p0.l.length : Int) then (if 0 ≤ w64 ((p0.l.getD x1.toNat 0) + 1) ∧ w64 ((p0.l.getD x1.toNat 0) + 1) < (((⟨#[46, 48, 49]⟩ : ByteArray) : ByteArray).size : Int) then (if x2.length + ([(((⟨#[46, 48, 49]⟩ : ByteArray) : ByteArray).data.toList.getD (w64 ((p0.l.getD x1.toNat 0) + 1)).toNat 0)]).length ≤ 1099511627776 then impl_position_key_l0 p0 k0 (w64 (x1 + 1)) (x2 ++ ([(((⟨#[46, 48, 49]⟩ : ByteArray) : ByteArray).data.toList.getD (w64 ((p0.l.getD x1.toNat 0) + 1)).toNat 0)])) else none) else none) else none) else some x2)
def impl_position_key (k : Nat) (p0 : Pos) : Option (ByteArray) :=
  (impl_position_key_l0 p0 k 0 ([] : List UInt8) : Option (List UInt8)).bind fun s7 => some (⟨s7.toArray⟩ : ByteArray)
set_option maxRecDepth 100000 in
theorem impl_position_key_ac (k : Nat) (p0 : Pos) (r : ByteArray) (h : impl_position_key k p0 = some r) : AC Tryd.prog 27 [.d (.agg (posD p0))] [] (fun res H' => res = [.d (.s (.string r))] ∧ H' = []) := by
  refine AC_of_body true Tryd.func27 rfl Tryd.ntmps27 (rvs := [.tmp 2]) rfl rfl (fun G hG => ?_)
  have hm : G.H.length = 0 := by rw [hG]; rfl
  have hz : zeroG G.H = true := by rw [hG]; rfl
  unfold impl_position_key at h
  refine ACode_seq (ACode_region ?_)
  refine AOps_boxI 1 _ _ (.agg (posD p0)) (posD p0) rfl (posD_one _) rfl rfl rfl rfl rfl ?_
  refine AOps_q 2 _ rfl rfl rfl (QOp_assign _ _ rfl rfl) ?_
  refine AOps_nil ?_
  refine ACode_seq (ACode_region ?_)
  refine AOps_buildSlice 6 _ _ _ [] (bysD ([] : List UInt8)) _ rfl rfl rfl rfl rfl (by decide) Tryd.underlying61 Tryd.sizeOf5 (zero_of Tryd.typeInfo5 rfl) rfl rfl (bysD_one _) ?_
  refine AOps_q 3 _ rfl rfl rfl (QOp_assign _ _ rfl rfl) ?_
  refine AOps_nil ?_
  obtain ⟨s7, hss7, hks7⟩ := bindO h
  clear h
  refine ACode_seqJ (fun E' H' => Weak 23 G E' H' [(3, .vec 0 0)] [.vec 0 (bysD s7)]) ?_ ?_
  · have h := hss7
    clear hss7
    refine ACode_seq (ACode_region ?_)
    refine AOps_q 7 _ rfl rfl rfl (QOp_fieldAddr_pv _ _ _ _ _ 1 _ _ rfl Tryd.underlying48 rfl _ Tryd.sizeOf30 rfl rfl) ?_
    refine AOps_q 8 _ rfl rfl rfl (QOp_load_pv _ _ _ _ _ rfl Tryd.isAgg30 rfl rfl) ?_
    refine AOps_q 9 _ rfl rfl rfl (QOp_len_sl _ _ _ _ _ _ _ (intsD_length _) rfl rfl rfl rfl Tryd.underlying30 rfl) ?_
    refine AOps_q 10 _ rfl rfl rfl (QOp_move _ _ rfl rfl) ?_
    refine AOps_nil ?_
    refine ACode_block ?_
    refine ACode_loopW (fun k0 E H => ∃ (x1 : Int) (x2 : List UInt8), E = [(3, .vec 0 0), (8, .d (.sl none (intsD p0.l))), (9, iV (p0.l.length : Int)), (10, iV x1)] ∧ H = [.vec 0 (bysD x2)] ∧ impl_position_key_l0 p0 k0 x1 x2 = some s7) k _ _ (Weak_keep 0 hm [3, 8, 9, 10] [0] _ _ rfl rfl rfl) ⟨_, _, rfl, rfl, h⟩ ?_
    clear h
    rintro k0 E H ⟨x1, x2, rfl, rfl, h⟩
    cases k0 with
    | zero => cases (show (none : Option (List UInt8)) = some _ from h)
    | succ k0 =>
      rw [impl_position_key_l0] at h
      refine ACode_seq (ACode_region ?_)
      refine AOps_q 11 _ rfl rfl rfl (QOp_lss _ _ _ _ _ _ _ rfl rfl rfl) ?_
      refine AOps_nil ?_
      refine ACode_seq ?_
      refine ACode_cond _ rfl (fun hb3 => ?_) (fun hb3 => ?_)
      · have h := iteT hb3 h
        refine ACode_skip ?_
        refine ACode_seq ?_
        refine ACode_block ?_
        refine ACode_seq (ACode_region ?_)
        obtain ⟨hc4, h⟩ := guardO h
        refine AOps_q 12 _ rfl rfl rfl (QOp_indexAddr_sl _ _ _ _ _ _ _ _ rfl Tryd.underlying30 Tryd.sizeOf2 hc4.1 (by rw [intsD_length]; exact hc4.2) rfl rfl) ?_
        refine AOps_q 13 _ rfl rfl rfl (QOp_load_pv _ _ _ _ _ rfl Tryd.isAgg2 rfl (intsD_get _ _ 0 (by omega))) ?_
        refine AOps_q 5 _ rfl rfl rfl (QOp_assign _ _ rfl rfl) ?_
        refine AOps_nil ?_
        refine (ACode_region ?_)
        refine AOps_q 14 _ rfl rfl rfl (QOp_move _ _ rfl rfl) ?_
        refine AOps_q 15 _ rfl rfl rfl (QOp_move _ _ rfl rfl) ?_
        refine AOps_q 16 _ rfl rfl rfl (QOp_add _ _ _ _ _ _ _ rfl rfl rfl) ?_
        obtain ⟨hc5, h⟩ := guardO h
        refine AOps_q 17 _ rfl rfl rfl (QOp_sindex _ _ _ _ _ _ rfl Tryd.underlying9 hc5.1 hc5.2 rfl rfl) ?_
        refine AOps_buildSlice 18 _ _ _ [_] (bysD ([(((⟨#[46, 48, 49]⟩ : ByteArray) : ByteArray).data.toList.getD (w64 ((p0.l.getD x1.toNat 0) + 1)).toNat 0)])) _ rfl rfl rfl rfl rfl (by decide) Tryd.underlying61 Tryd.sizeOf5 (zero_of Tryd.typeInfo5 rfl) rfl rfl (bysD_one _) ?_
        obtain ⟨hc6, h⟩ := guardO h
        refine AOps_append 19 _ _ _ _ _ _ _ _ _ _ _ _ rfl rfl rfl rfl rfl rfl rfl Tryd.underlying61 Tryd.type5 rfl rfl rfl (by decide) rfl rfl rfl rfl (bysD_one _) (by rw [bysD_length, bysD_length]; exact hc6) ?_
        rw [bysD_app]
        refine AOps_q 3 _ rfl rfl rfl (QOp_assign _ _ rfl rfl) ?_
        refine AOps_nil ?_
        refine (ACode_region ?_)
        refine AOps_q 20 _ rfl rfl rfl (QOp_add _ _ _ _ _ _ _ rfl rfl rfl) ?_
        refine AOps_q 10 _ rfl rfl rfl (QOp_move _ _ rfl rfl) ?_
        refine AOps_nil ?_
        exact ⟨k0, _, _, Nat.lt_succ_self _, Weak_trans (Weak_keep 0 hm [3, 8, 9, 10] [0] _ _ rfl rfl rfl) (Weak_reset 0 hm hz [3, 8, 9, 10] _ _ rfl rfl), _, _, rfl, rfl, h⟩
      · have h := iteF hb3 h
        refine ACode_exit ?_
        cases h
        exact Weak_keep 0 hm [3] [0] _ _ rfl rfl rfl
  intro E' H' hw
  refine ACode_weak hw ?_
  have h := hks7
  refine ACode_seq (ACode_region ?_)
  refine AOps_q 21 _ rfl rfl rfl (QOp_move _ _ rfl rfl) ?_
  refine AOps_q 22 _ rfl rfl rfl (QOp_bstr _ _ _ _ _ _ _ rfl Tryd.underlying61 Tryd.underlying5 Tryd.underlying9 rfl rfl) ?_
  refine AOps_q 2 _ rfl rfl rfl (QOp_assign _ _ rfl rfl) ?_
  refine AOps_nil ?_
  refine ACode_ret ?_
  cases h
  exact ⟨_, _, fun r a w h => ⟨r, h⟩, _, _, [], _, (.cons (ResV_tmp _ _ rfl) .nil), rfl, rfl, rfl, rfl, rfl⟩

-- loop.example/g01362/impl.PositionText
def impl_PositionText (k : Nat) (p0 : Int) (p1 : List Int) : Option (ByteArray × Int) :=
  (impl_position_code k (⟨p0, p1⟩ : Pos) (some (impl_always))).bind fun r1 => (if !decide (r1 = 0) then some ((⟨#[]⟩ : ByteArray), r1) else (impl_decimal p0).bind fun r3 => (if r3.size + (⟨#[58]⟩ : ByteArray).size ≤ 1099511627776 then (impl_position_key k (⟨p0, p1⟩ : Pos)).bind fun r5 => (if (r3 ++ (⟨#[58]⟩ : ByteArray)).size + r5.size ≤ 1099511627776 then some (((r3 ++ (⟨#[58]⟩ : ByteArray)) ++ r5), 0) else none) else none))
set_option maxRecDepth 100000 in
theorem impl_PositionText_ac (k : Nat) (p0 : Int) (p1 : List Int) (r : ByteArray × Int) (h : impl_PositionText k p0 p1 = some r) : AC Tryd.prog 11 [iV p0, .d (.sl none (intsD p1))] [] (fun res H' => res = [.d (.s (.string r.1)), iV r.2] ∧ H' = []) := by
  refine AC_of_body true Tryd.func11 rfl Tryd.ntmps11 (rvs := [.tmp 4, .tmp 5]) rfl rfl (fun G hG => ?_)
  have hm : G.H.length = 0 := by rw [hG]; rfl
  have hz : zeroG G.H = true := by rw [hG]; rfl
  unfold impl_PositionText at h
  refine ACode_seq (ACode_region ?_)
  refine AOps_q 4 _ rfl rfl rfl (QOp_assign _ _ rfl rfl) ?_
  refine AOps_q 5 _ rfl rfl rfl (QOp_assign _ _ rfl rfl) ?_
  refine AOps_nil ?_
  refine ACode_seq (ACode_region ?_)
  refine AOps_q 8 _ rfl rfl rfl (QOp_move _ _ rfl rfl) ?_
  refine AOps_q 9 _ rfl rfl rfl (QOp_move _ _ rfl rfl) ?_
  refine AOps_q 10 _ rfl rfl rfl (QOp_build _ _ [_, _] [0, 1] [iD p0, .sl none (intsD p1)] _ [iD 0, .sl (some true) []] (posD (⟨p0, p1⟩ : Pos)) [(0, 1), (1, 1)] rfl rfl Tryd.underlying48 (zero_of Tryd.typeInfo48 rfl) (fun w => by simp [Tryd.sizeOf2, Tryd.sizeOf30]) rfl (by rfl) (by rfl) (allc (ok1 rfl) (allc (ok1 rfl) (fun _ h => nomatch h)))) ?_
  refine AOps_alloc 6 _ _ ([iD 0, .sl (some true) []]) (zero_of Tryd.typeInfo48 rfl) (by rfl) rfl rfl rfl rfl ?_
  refine AOps_store _ _ _ _ _ _ (posD _) _ _ rfl rfl rfl rfl rfl rfl rfl (posD_one _) (by rw [posD_length]; exact Tryd.sizeOf48) (by show (2 : Nat) ≤ 2; decide) rfl ?_
  refine AOps_nil ?_
  refine ACode_seq ?_
  refine ACode_seq (ACode_region ?_)
  refine AOps_q 11 _ rfl rfl rfl (QOp_loadN_ptr _ _ _ _ _ _ _ rfl Tryd.isAgg48 Tryd.sizeOf48 rfl rfl (posD_all _) (posD_length _)) ?_
  obtain ⟨r1, hr1, h⟩ := bindO h
  refine AOps_call [] 12 _ _ _ _ _ _ _ _ _ _ rfl rfl rfl rfl rfl rfl rfl Tryd.call25 rfl (nodupB_sound _ rfl) rfl rfl rfl (impl_position_code_ac k (⟨p0, p1⟩ : Pos) (some (impl_always)) 21 ([]) Tryd.call21 (fun r h => by cases h; exact impl_always_ac) _ hr1) ?_
  rintro _ _ ⟨rfl, rfl⟩
  refine ⟨(fun _ h => nomatch h), (allc (trivial) (fun _ h => nomatch h)), AOps_as 12 (v' := iV r1) (H' := [.box (posD (⟨p0, p1⟩ : Pos))]) rfl rfl ?_⟩
  refine AOps_q 7 _ rfl rfl rfl (QOp_assign _ _ rfl rfl) ?_
  refine AOps_nil ?_
  refine ACode_seq (ACode_region ?_)
  refine AOps_q 13 _ rfl rfl rfl (QOp_move _ _ rfl rfl) ?_
  refine AOps_q 14 _ rfl rfl rfl (QOp_neq _ _ _ _ _ _ _ rfl rfl rfl) ?_
  refine AOps_nil ?_
  refine ACode_cond _ rfl (fun hb2 => ?_) (fun hb2 => ?_)
  · have h := iteT hb2 h
    refine ACode_seq (ACode_region ?_)
    refine AOps_q 15 _ rfl rfl rfl (QOp_move _ _ rfl rfl) ?_
    refine AOps_q 4 _ rfl rfl rfl (QOp_assign _ _ rfl rfl) ?_
    refine AOps_q 5 _ rfl rfl rfl (QOp_assign _ _ rfl rfl) ?_
    refine AOps_nil ?_
    refine ACode_ret ?_
    cases h
    exact ⟨_, _, fun r a w h => ⟨r, h⟩, _, _, [], _, (.cons (ResV_tmp _ _ rfl) (.cons (ResV_tmp _ _ rfl) .nil)), rfl, rfl, rfl, rfl, rfl⟩
  · have h := iteF hb2 h
    refine ACode_skip ?_
    refine ACode_seq (ACode_quiet mixed (by kernel_rfl) ?_)
    refine AQ_q 16 _ rfl rfl rfl (QOp_move _ _ rfl rfl) ?_
    obtain ⟨r3, hr3, h⟩ := bindO h
    refine AQ_call 17 _ _ _ _ _ _ _ _ _ rfl rfl rfl rfl rfl rfl rfl Tryd.call26 rfl rfl rfl (impl_decimal_ac p0 _ hr3) ?_
    obtain ⟨hc4, h⟩ := guardO h
    refine AQ_q 18 _ rfl rfl rfl (QOp_sadd _ _ _ _ _ _ rfl rfl rfl hc4) ?_
    refine AQ_q 19 _ rfl rfl rfl (QOp_loadN_ptr _ _ _ _ _ _ _ rfl Tryd.isAgg48 Tryd.sizeOf48 rfl rfl (posD_all _) (posD_length _)) ?_
    obtain ⟨r5, hr5, h⟩ := bindO h
    refine AQ_call 20 _ _ _ _ _ _ _ _ _ rfl rfl rfl rfl rfl rfl rfl Tryd.call27 rfl rfl rfl (impl_position_key_ac k (⟨p0, p1⟩ : Pos) _ hr5) ?_
    obtain ⟨hc6, h⟩ := guardO h
    refine AQ_q 21 _ rfl rfl rfl (QOp_sadd _ _ _ _ _ _ rfl rfl rfl hc6) ?_
    refine AQ_q 4 _ rfl rfl rfl (QOp_assign _ _ rfl rfl) ?_
    refine AQ_q 5 _ rfl rfl rfl (QOp_assign _ _ rfl rfl) ?_
    refine AQ_nil ?_
    refine ACode_ret ?_
    cases h
    exact ⟨_, _, fun r a w h => ⟨r, h⟩, _, _, [], _, (.cons (ResV_tmp _ _ rfl) (.cons (ResV_tmp _ _ rfl) .nil)), rfl, rfl, rfl, rfl, rfl⟩

end Go.Proofs.YtmmiokljmfkoiaaDoor
