/- Plain functions of the program and that the program computes them: printed by the own tool gen.py. No conditions. -/
import Derived.Test.YtfgfaffcfbhocaaGen9a
set_option linter.unusedVariables false
set_option linter.unusedSimpArgs false
namespace Go.Proofs.Ytfgfaffcfbhocaa
open Go Go.RowKit Ab

-- loop.example/g01362/impl.RenumberPosition
def impl_RenumberPosition (k : Nat) (p0 : Int) (p1 : List Int) (p2 : List Int) : Option (Option (List Int) × Int) :=
  (impl_position_code k (⟨p0, p1⟩ : Pos) (impl_RenumberPosition_c1 k p2 p0)).bind fun r1 => (if !decide (r1 = 0) then some (none, r1) else (impl_position_renumbered k (⟨p0, p1⟩ : Pos) p2).bind fun r3 => some (some r3, 0))
set_option maxRecDepth 100000 in
theorem impl_RenumberPosition_ac (k : Nat) (p0 : Int) (p1 : List Int) (p2 : List Int) (r : Option (List Int) × Int) (h : impl_RenumberPosition k p0 p1 p2 = some r) : AC Try.prog 22 [iV p0, .d (.sl none (intsD p1)), .d (.sl none (intsD p2))] [] (fun res H' => res = [ownA 0 (r.1.map intsD), iV r.2] ∧ H' = [] ++ ownH (r.1.map intsD)) := by
  refine AC_of_body false Try.func22 rfl Try.ntmps22 (rvs := [.tmp 6, .tmp 7]) rfl rfl (fun G hG => ?_)
  have hm : G.H.length = 0 := by rw [hG]; rfl
  have hz : zeroG G.H = true := by rw [hG]; rfl
  unfold impl_RenumberPosition at h
  refine ACode_seq (ACode_region ?_)
  refine AOps_boxI 3 _ _ (iD p0) _ rfl (fun c hc => by cases hc with | head => rfl | tail _ h => cases h) rfl rfl rfl rfl rfl ?_
  refine AOps_boxI 5 _ _ (.sl none (intsD p2)) _ rfl (fun c hc => by cases hc with | head => rfl | tail _ h => cases h) rfl rfl rfl rfl rfl ?_
  refine AOps_q 6 _ rfl rfl rfl (QOp_assign _ _ rfl rfl) ?_
  refine AOps_q 7 _ rfl rfl rfl (QOp_assign _ _ rfl rfl) ?_
  refine AOps_nil ?_
  refine ACode_seq (ACode_region ?_)
  refine AOps_q 10 _ rfl rfl rfl (QOp_load_pv _ _ _ _ _ rfl Try.isAgg2 rfl rfl) ?_
  refine AOps_q 11 _ rfl rfl rfl (QOp_move _ _ rfl rfl) ?_
  refine AOps_q 12 _ rfl rfl rfl (QOp_build _ _ [_, _] [0, 1] [iD p0, .sl none (intsD p1)] _ [iD 0, .sl (some true) []] (posD (⟨p0, p1⟩ : Pos)) [(0, 1), (1, 1)] rfl rfl Try.underlying95 (zero_of Try.typeInfo95 rfl) (fun w => by simp [Try.sizeOf2, Try.sizeOf25]) rfl (by rfl) (by rfl) (allc (ok1 rfl) (allc (ok1 rfl) (fun _ h => nomatch h)))) ?_
  refine AOps_alloc 8 _ _ ([iD 0, .sl (some true) []]) (zero_of Try.typeInfo95 rfl) (by rfl) rfl rfl rfl rfl ?_
  refine AOps_store _ _ _ _ _ _ (posD _) _ _ rfl rfl rfl rfl rfl rfl rfl (posD_one _) (by rw [posD_length]; exact Try.sizeOf95) (by show (2 : Nat) ≤ 2; decide) rfl ?_
  refine AOps_nil ?_
  refine ACode_seq ?_
  refine ACode_seq (ACode_region ?_)
  refine AOps_q 13 _ rfl rfl rfl (QOp_loadN_ptr _ _ _ _ _ _ _ rfl Try.isAgg95 Try.sizeOf95 rfl rfl (posD_all _) (posD_length _)) ?_
  refine AOps_q 14 _ rfl rfl rfl (QOp_makeFuncD _ _ _ _ rfl rfl rfl) ?_
  obtain ⟨r1, hr1, h⟩ := bindO h
  refine AOps_call [] 15 _ _ _ _ _ _ _ _ _ _ rfl rfl rfl rfl rfl rfl rfl Try.call96 rfl (nodupB_sound _ rfl) rfl rfl rfl (impl_position_code_ac k (⟨p0, p1⟩ : Pos) (impl_RenumberPosition_c1 k p2 p0) 97 ([.pv ([.sl none (intsD p2)]) 0, .pv ([iD p0]) 0]) Try.call97 (fun r h => impl_RenumberPosition_c1_ac k p2 p0 r h) _ hr1) ?_
  rintro _ _ ⟨rfl, rfl⟩
  refine ⟨(fun _ h => nomatch h), (allc (trivial) (fun _ h => nomatch h)), AOps_as 15 (v' := iV r1) (H' := [.box (posD (⟨p0, p1⟩ : Pos))]) rfl rfl ?_⟩
  refine AOps_q 9 _ rfl rfl rfl (QOp_assign _ _ rfl rfl) ?_
  refine AOps_nil ?_
  refine ACode_seq (ACode_region ?_)
  refine AOps_q 16 _ rfl rfl rfl (QOp_move _ _ rfl rfl) ?_
  refine AOps_q 17 _ rfl rfl rfl (QOp_neq _ _ _ _ _ _ _ rfl rfl rfl) ?_
  refine AOps_nil ?_
  refine ACode_cond _ rfl (fun hb2 => ?_) (fun hb2 => ?_)
  · have h := iteT hb2 h
    refine ACode_seq (ACode_region ?_)
    refine AOps_q 18 _ rfl rfl rfl (QOp_move _ _ rfl rfl) ?_
    refine AOps_q 6 _ rfl rfl rfl (QOp_assign _ _ rfl rfl) ?_
    refine AOps_q 7 _ rfl rfl rfl (QOp_assign _ _ rfl rfl) ?_
    refine AOps_nil ?_
    refine ACode_ret ?_
    cases h
    exact ⟨_, _, fun r a w h => ⟨r, h⟩, _, _, [], _, (.cons (ResV_tmp _ _ rfl) (.cons (ResV_tmp _ _ rfl) .nil)), rfl, rfl, rfl, rfl, rfl⟩
  · have h := iteF hb2 h
    refine ACode_skip ?_
    refine ACode_seq (ACode_region ?_)
    refine AOps_q 19 _ rfl rfl rfl (QOp_loadN_ptr _ _ _ _ _ _ _ rfl Try.isAgg95 Try.sizeOf95 rfl rfl (posD_all _) (posD_length _)) ?_
    refine AOps_q 20 _ rfl rfl rfl (QOp_load_pv _ _ _ _ _ rfl Try.isAgg25 rfl rfl) ?_
    obtain ⟨r3, hr3, h⟩ := bindO h
    refine AOps_call [] 21 _ _ _ _ _ _ _ _ _ _ rfl rfl rfl rfl rfl rfl rfl Try.call99 rfl (nodupB_sound _ rfl) rfl rfl rfl (impl_position_renumbered_ac k (⟨p0, p1⟩ : Pos) p2 _ hr3) ?_
    rintro _ _ ⟨rfl, rfl⟩
    refine ⟨(allc (fun _ _ => trivial) (fun _ h => nomatch h)), (allc (trivial) (fun _ h => nomatch h)), AOps_as 21 (v' := .vec 1 0) (H' := [.box (posD (⟨p0, p1⟩ : Pos)), .vec 0 (intsD r3)]) rfl rfl ?_⟩
    refine AOps_q 6 _ rfl rfl rfl (QOp_assign _ _ rfl rfl) ?_
    refine AOps_q 7 _ rfl rfl rfl (QOp_assign _ _ rfl rfl) ?_
    refine AOps_nil ?_
    refine ACode_ret ?_
    cases h
    exact ⟨_, _, Weak_reset 0 hm hz [6, 7] _ _ rfl rfl, _, _, [1], _, (.cons (ResV_tmp _ _ rfl) (.cons (ResV_tmp _ _ rfl) .nil)), rfl, rfl, rfl, rfl, rfl⟩

-- loop.example/g01362/laws.eqInt64S
def laws_eqInt64S_l0 (p0 : List Int) (p1 : List Int) : Nat → Int → Option (Sum (Unit) (Bool))
  | 0, _ => none
  | k0 + 1, x2 => (if decide (x2 < (p0.length : Int)) then (if 0 ≤ x2 ∧ x2 < (p0.length : Int) then (if 0 ≤ x2 ∧ x2 < (p1.length : Int) then (if !decide ((p0.getD x2.toNat 0) = (p1.getD x2.toNat 0)) then some (.inr false) else laws_eqInt64S_l0 p0 p1 k0 (w64 (x2 + 1))) else none) else none) else some (.inl ()))
def laws_eqInt64S (k : Nat) (p0 : List Int) (p1 : List Int) : Option (Bool) :=
  (if !decide ((p0.length : Int) = (p1.length : Int)) then some false else (laws_eqInt64S_l0 p0 p1 k 0 : Option (Sum (Unit) (Bool))).bind fun os7 => (match os7 with | .inl s7 => some true | .inr rr => some rr))
set_option maxRecDepth 100000 in
theorem laws_eqInt64S_ac (k : Nat) (p0 : List Int) (p1 : List Int) (r : Bool) (h : laws_eqInt64S k p0 p1 = some r) : AC Try.prog 15 [.d (.sl none (intsD p0)), .d (.sl none (intsD p1))] [] (fun res H' => res = [bV r] ∧ H' = []) := by
  refine AC_of_body true Try.func15 rfl Try.ntmps15 (rvs := [.tmp 4]) rfl rfl (fun G hG => ?_)
  have hm : G.H.length = 0 := by rw [hG]; rfl
  have hz : zeroG G.H = true := by rw [hG]; rfl
  unfold laws_eqInt64S at h
  refine ACode_seq (ACode_region ?_)
  refine AOps_q 4 _ rfl rfl rfl (QOp_assign _ _ rfl rfl) ?_
  refine AOps_nil ?_
  refine ACode_seq ?_
  refine ACode_seq (ACode_region ?_)
  refine AOps_q 6 _ rfl rfl rfl (QOp_move _ _ rfl rfl) ?_
  refine AOps_q 7 _ rfl rfl rfl (QOp_len_sl _ _ _ _ _ _ _ (intsD_length _) rfl rfl rfl rfl Try.underlying25 rfl) ?_
  refine AOps_q 8 _ rfl rfl rfl (QOp_move _ _ rfl rfl) ?_
  refine AOps_q 9 _ rfl rfl rfl (QOp_len_sl _ _ _ _ _ _ _ (intsD_length _) rfl rfl rfl rfl Try.underlying25 rfl) ?_
  refine AOps_q 10 _ rfl rfl rfl (QOp_neq _ _ _ _ _ _ _ rfl rfl rfl) ?_
  refine AOps_nil ?_
  refine ACode_cond _ rfl (fun hb1 => ?_) (fun hb1 => ?_)
  · have h := iteT hb1 h
    refine ACode_seq (ACode_region ?_)
    refine AOps_q 4 _ rfl rfl rfl (QOp_assign _ _ rfl rfl) ?_
    refine AOps_nil ?_
    refine ACode_ret ?_
    cases h
    exact ⟨_, _, fun r a w h => ⟨r, h⟩, _, _, [], _, (.cons (ResV_tmp _ _ rfl) .nil), rfl, rfl, rfl, rfl, rfl⟩
  · have h := iteF hb1 h
    refine ACode_skip ?_
    obtain ⟨os7, hss7, hks7⟩ := bindO h
    clear h
    refine ACode_seqJ (fun E' H' => ∃ s7 : Unit, os7 = .inl s7 ∧ Weak 26 G E' H' [] []) ?_ ?_
    · have h := hss7
      clear hss7
      refine ACode_seq (ACode_region ?_)
      refine AOps_q 5 _ rfl rfl rfl (QOp_assign _ _ rfl rfl) ?_
      refine AOps_nil ?_
      refine ACode_block ?_
      refine ACode_loopW (fun k0 E H => ∃ (x2 : Int), E = [(0, .d (.sl none (intsD p0))), (1, .d (.sl none (intsD p1))), (5, iV x2)] ∧ H = [] ∧ laws_eqInt64S_l0 p0 p1 k0 x2 = some os7) k _ _ (Weak_keep 0 hm [0, 1, 5] [] _ _ rfl rfl rfl) ⟨_, rfl, rfl, h⟩ ?_
      clear h
      rintro k0 E H ⟨x2, rfl, rfl, h⟩
      cases k0 with
      | zero => cases (show (none : Option (Sum (Unit) (Bool))) = some _ from h)
      | succ k0 =>
        rw [laws_eqInt64S_l0] at h
        refine ACode_seq ?_
        refine ACode_seq (ACode_region ?_)
        refine AOps_q 11 _ rfl rfl rfl (QOp_move _ _ rfl rfl) ?_
        refine AOps_q 12 _ rfl rfl rfl (QOp_move _ _ rfl rfl) ?_
        refine AOps_q 13 _ rfl rfl rfl (QOp_len_sl _ _ _ _ _ _ _ (intsD_length _) rfl rfl rfl rfl Try.underlying25 rfl) ?_
        refine AOps_q 14 _ rfl rfl rfl (QOp_lss _ _ _ _ _ _ _ rfl rfl rfl) ?_
        refine AOps_nil ?_
        refine ACode_cond _ rfl (fun hb3 => ?_) (fun hb3 => ?_)
        · have h := iteT hb3 h
          refine ACode_skip ?_
          refine ACode_seq ?_
          refine ACode_block ?_
          refine ACode_seq (ACode_quiet mixed (by kernel_rfl) ?_)
          refine AQ_q 17 _ rfl rfl rfl (QOp_move _ _ rfl rfl) ?_
          refine AQ_q 18 _ rfl rfl rfl (QOp_move _ _ rfl rfl) ?_
          obtain ⟨hc4, h⟩ := guardO h
          refine AQ_q 19 _ rfl rfl rfl (QOp_indexAddr_sl _ _ _ _ _ _ _ _ rfl Try.underlying25 Try.sizeOf2 hc4.1 (by rw [intsD_length]; exact hc4.2) rfl rfl) ?_
          refine AQ_q 20 _ rfl rfl rfl (QOp_load_pv _ _ _ _ _ rfl Try.isAgg2 rfl (intsD_get _ _ 0 (by omega))) ?_
          refine AQ_q 21 _ rfl rfl rfl (QOp_move _ _ rfl rfl) ?_
          refine AQ_q 22 _ rfl rfl rfl (QOp_move _ _ rfl rfl) ?_
          obtain ⟨hc5, h⟩ := guardO h
          refine AQ_q 23 _ rfl rfl rfl (QOp_indexAddr_sl _ _ _ _ _ _ _ _ rfl Try.underlying25 Try.sizeOf2 hc5.1 (by rw [intsD_length]; exact hc5.2) rfl rfl) ?_
          refine AQ_q 24 _ rfl rfl rfl (QOp_load_pv _ _ _ _ _ rfl Try.isAgg2 rfl (intsD_get _ _ 0 (by omega))) ?_
          refine AQ_q 25 _ rfl rfl rfl (QOp_neq _ _ _ _ _ _ _ rfl rfl rfl) ?_
          refine AQ_nil ?_
          refine ACode_cond _ rfl (fun hb6 => ?_) (fun hb6 => ?_)
          · have h := iteT hb6 h
            refine ACode_seq (ACode_region ?_)
            refine AOps_q 4 _ rfl rfl rfl (QOp_assign _ _ rfl rfl) ?_
            refine AOps_nil ?_
            refine ACode_ret ?_
            cases h
            have h := hks7
            cases h
            exact ⟨_, _, fun r a w h => ⟨r, h⟩, _, _, [], _, (.cons (ResV_tmp _ _ rfl) .nil), rfl, rfl, rfl, rfl, rfl⟩
          · have h := iteF hb6 h
            refine ACode_skip ?_
            refine (ACode_region ?_)
            refine AOps_q 15 _ rfl rfl rfl (QOp_move _ _ rfl rfl) ?_
            refine AOps_q 16 _ rfl rfl rfl (QOp_add _ _ _ _ _ _ _ rfl rfl rfl) ?_
            refine AOps_q 5 _ rfl rfl rfl (QOp_assign _ _ rfl rfl) ?_
            refine AOps_nil ?_
            exact ⟨k0, _, _, Nat.lt_succ_self _, Weak_keep 0 hm [0, 1, 5] [] _ _ rfl rfl rfl, _, rfl, rfl, h⟩
        · have h := iteF hb3 h
          refine ACode_exit ?_
          cases h
          exact ⟨_, rfl, Weak_keep 0 hm [] [] _ _ rfl rfl rfl⟩
    rintro E' H' ⟨s7, rfl, hw⟩
    refine ACode_weak hw ?_
    have h := hks7
    refine ACode_seq (ACode_region ?_)
    refine AOps_q 4 _ rfl rfl rfl (QOp_assign _ _ rfl rfl) ?_
    refine AOps_nil ?_
    refine ACode_ret ?_
    cases h
    exact ⟨_, _, fun r a w h => ⟨r, h⟩, _, _, [], _, (.cons (ResV_tmp _ _ rfl) .nil), rfl, rfl, rfl, rfl, rfl⟩

-- loop.example/g01362/laws.markInt64S
def laws_markInt64S_l0 : Nat → Int → Int → (List Int) → Option (Int × List Int)
  | 0, _, _, _ => none
  | k0 + 1, x1, x2, x3 => (if decide (x2 < (x3.length : Int)) then (if 0 ≤ x2 ∧ x2 < (x3.length : Int) then laws_markInt64S_l0 k0 (w64 (x1 + 1)) (w64 (x2 + 1)) (x3.set x2.toNat x1) else none) else some (x1, x3))
def laws_markInt64S (k : Nat) (p0 : List Int) (p1 : Int) : Option (Int × List Int) :=
  (laws_markInt64S_l0 k p1 0 p0 : Option (Int × List Int)).bind fun s6 => some (s6.1, s6.2)
set_option maxRecDepth 100000 in
theorem laws_markInt64S_ac (k : Nat) (p0 : List Int) (p1 : Int) (r : Int × List Int) (h : laws_markInt64S k p0 p1 = some r) : AC Try.prog 16 [.vec 0 0, iV p1] [.vec 0 (intsD p0)] (fun res H' => res = [iV r.1] ∧ H' = [.vec 0 (intsD r.2)]) := by
  refine AC_of_body true Try.func16 rfl Try.ntmps16 (rvs := [.tmp 4]) rfl rfl (fun G hG => ?_)
  have hm : G.H.length = 1 := by rw [hG]; rfl
  have hz : zeroG G.H = true := by rw [hG]; rfl
  unfold laws_markInt64S at h
  refine ACode_seq (ACode_region ?_)
  refine AOps_q 4 _ rfl rfl rfl (QOp_assign _ _ rfl rfl) ?_
  refine AOps_nil ?_
  obtain ⟨s6, hss6, hks6⟩ := bindO h
  clear h
  refine ACode_seqJ (fun E' H' => Weak 19 G E' H' [(1, iV s6.1)] [.vec 0 (intsD s6.2)]) ?_ ?_
  · have h := hss6
    clear hss6
    refine ACode_seq (ACode_region ?_)
    refine AOps_q 5 _ rfl rfl rfl (QOp_assign _ _ rfl rfl) ?_
    refine AOps_nil ?_
    refine ACode_block ?_
    refine ACode_loopW (fun k0 E H => ∃ (x1 : Int) (x2 : Int) (x3 : List Int), E = [(0, .vec 0 0), (1, iV x1), (5, iV x2)] ∧ H = [.vec 0 (intsD x3)] ∧ laws_markInt64S_l0 k0 x1 x2 x3 = some s6) k _ _ (Weak_keep 1 hm [0, 1, 5] [] _ _ rfl rfl rfl) ⟨_, _, _, rfl, rfl, h⟩ ?_
    clear h
    rintro k0 E H ⟨x1, x2, x3, rfl, rfl, h⟩
    cases k0 with
    | zero => cases (show (none : Option (Int × List Int)) = some _ from h)
    | succ k0 =>
      rw [laws_markInt64S_l0] at h
      refine ACode_seq ?_
      refine ACode_seq (ACode_region ?_)
      refine AOps_q 6 _ rfl rfl rfl (QOp_move _ _ rfl rfl) ?_
      refine AOps_q 7 _ rfl rfl rfl (QOp_move _ _ rfl rfl) ?_
      refine AOps_q 8 _ rfl rfl rfl (QOp_len_vec _ _ _ _ _ _ _ _ (intsD_length _) rfl rfl rfl rfl Try.underlying25 rfl rfl) ?_
      refine AOps_q 9 _ rfl rfl rfl (QOp_lss _ _ _ _ _ _ _ rfl rfl rfl) ?_
      refine AOps_nil ?_
      refine ACode_cond _ rfl (fun hb4 => ?_) (fun hb4 => ?_)
      · have h := iteT hb4 h
        refine ACode_skip ?_
        refine ACode_seq ?_
        refine ACode_block ?_
        refine ACode_seq (ACode_region ?_)
        refine AOps_q 12 _ rfl rfl rfl (QOp_move _ _ rfl rfl) ?_
        refine AOps_q 13 _ rfl rfl rfl (QOp_move _ _ rfl rfl) ?_
        refine AOps_q 14 _ rfl rfl rfl (QOp_move _ _ rfl rfl) ?_
        obtain ⟨hc5, h⟩ := guardO h
        refine AOps_q 15 _ rfl rfl rfl (QOp_indexAddr_vec _ _ _ _ _ _ _ _ _ rfl Try.underlying25 Try.sizeOf2 hc5.1 (by rw [intsD_length]; exact hc5.2) rfl rfl rfl) ?_
        refine AOps_store_eptr _ _ _ _ _ _ (intsD x3) _ rfl rfl rfl rfl rfl rfl rfl Try.sizeOf2 (by rw [intsD_length]; omega) ?_
        rw [intsD_set]
        refine AOps_nil ?_
        refine (ACode_region ?_)
        refine AOps_q 16 _ rfl rfl rfl (QOp_move _ _ rfl rfl) ?_
        refine AOps_q 17 _ rfl rfl rfl (QOp_add _ _ _ _ _ _ _ rfl rfl rfl) ?_
        refine AOps_q 1 _ rfl rfl rfl (QOp_assign _ _ rfl rfl) ?_
        refine AOps_nil ?_
        refine (ACode_region ?_)
        refine AOps_q 10 _ rfl rfl rfl (QOp_move _ _ rfl rfl) ?_
        refine AOps_q 11 _ rfl rfl rfl (QOp_add _ _ _ _ _ _ _ rfl rfl rfl) ?_
        refine AOps_q 5 _ rfl rfl rfl (QOp_assign _ _ rfl rfl) ?_
        refine AOps_nil ?_
        exact ⟨k0, _, _, Nat.lt_succ_self _, Weak_keep 1 hm [0, 1, 5] [] _ _ rfl rfl rfl, _, _, _, rfl, rfl, h⟩
      · have h := iteF hb4 h
        refine ACode_exit ?_
        cases h
        exact Weak_keep 1 hm [1] [] _ _ rfl rfl rfl
  intro E' H' hw
  refine ACode_weak hw ?_
  have h := hks6
  refine ACode_seq (ACode_region ?_)
  refine AOps_q 18 _ rfl rfl rfl (QOp_move _ _ rfl rfl) ?_
  refine AOps_q 4 _ rfl rfl rfl (QOp_assign _ _ rfl rfl) ?_
  refine AOps_nil ?_
  refine ACode_ret ?_
  cases h
  exact ⟨_, _, fun r a w h => ⟨r, h⟩, _, _, [], _, (.cons (ResV_tmp _ _ rfl) .nil), rfl, rfl, rfl, rfl, rfl⟩

-- loop.example/g01362/laws.markInt64S
def laws_markInt64S_d0_l0 (p0 : List Int) : Nat → Int → Int → Option (Int)
  | 0, _, _ => none
  | k0 + 1, x1, x2 => (if decide (x2 < (p0.length : Int)) then (if 0 ≤ x2 ∧ x2 < (p0.length : Int) then none else none) else some x1)
def laws_markInt64S_d0 (k : Nat) (p0 : List Int) (p1 : Int) : Option (Int) :=
  (laws_markInt64S_d0_l0 p0 k p1 0 : Option (Int)).bind fun s5 => some s5
set_option maxRecDepth 100000 in
theorem laws_markInt64S_d0_ac (k : Nat) (p0 : List Int) (p1 : Int) (r : Int) (h : laws_markInt64S_d0 k p0 p1 = some r) : AC Try.prog 16 [.d (.sl none (intsD p0)), iV p1] [] (fun res H' => res = [iV r] ∧ H' = []) := by
  refine AC_of_body true Try.func16 rfl Try.ntmps16 (rvs := [.tmp 4]) rfl rfl (fun G hG => ?_)
  have hm : G.H.length = 0 := by rw [hG]; rfl
  have hz : zeroG G.H = true := by rw [hG]; rfl
  unfold laws_markInt64S_d0 at h
  refine ACode_seq (ACode_region ?_)
  refine AOps_q 4 _ rfl rfl rfl (QOp_assign _ _ rfl rfl) ?_
  refine AOps_nil ?_
  obtain ⟨s5, hss5, hks5⟩ := bindO h
  clear h
  refine ACode_seqJ (fun E' H' => Weak 19 G E' H' [(1, iV s5)] []) ?_ ?_
  · have h := hss5
    clear hss5
    refine ACode_seq (ACode_region ?_)
    refine AOps_q 5 _ rfl rfl rfl (QOp_assign _ _ rfl rfl) ?_
    refine AOps_nil ?_
    refine ACode_block ?_
    refine ACode_loopW (fun k0 E H => ∃ (x1 : Int) (x2 : Int), E = [(0, .d (.sl none (intsD p0))), (1, iV x1), (5, iV x2)] ∧ H = [] ∧ laws_markInt64S_d0_l0 p0 k0 x1 x2 = some s5) k _ _ (Weak_keep 0 hm [0, 1, 5] [] _ _ rfl rfl rfl) ⟨_, _, rfl, rfl, h⟩ ?_
    clear h
    rintro k0 E H ⟨x1, x2, rfl, rfl, h⟩
    cases k0 with
    | zero => cases (show (none : Option (Int)) = some _ from h)
    | succ k0 =>
      rw [laws_markInt64S_d0_l0] at h
      refine ACode_seq ?_
      refine ACode_seq (ACode_region ?_)
      refine AOps_q 6 _ rfl rfl rfl (QOp_move _ _ rfl rfl) ?_
      refine AOps_q 7 _ rfl rfl rfl (QOp_move _ _ rfl rfl) ?_
      refine AOps_q 8 _ rfl rfl rfl (QOp_len_sl _ _ _ _ _ _ _ (intsD_length _) rfl rfl rfl rfl Try.underlying25 rfl) ?_
      refine AOps_q 9 _ rfl rfl rfl (QOp_lss _ _ _ _ _ _ _ rfl rfl rfl) ?_
      refine AOps_nil ?_
      refine ACode_cond _ rfl (fun hb3 => ?_) (fun hb3 => ?_)
      · have h := iteT hb3 h
        refine ACode_skip ?_
        refine ACode_seq ?_
        refine ACode_block ?_
        refine ACode_seq (ACode_region ?_)
        refine AOps_q 12 _ rfl rfl rfl (QOp_move _ _ rfl rfl) ?_
        refine AOps_q 13 _ rfl rfl rfl (QOp_move _ _ rfl rfl) ?_
        refine AOps_q 14 _ rfl rfl rfl (QOp_move _ _ rfl rfl) ?_
        obtain ⟨hc4, h⟩ := guardO h
        refine AOps_q 15 _ rfl rfl rfl (QOp_indexAddr_sl _ _ _ _ _ _ _ _ rfl Try.underlying25 Try.sizeOf2 hc4.1 (by rw [intsD_length]; exact hc4.2) rfl rfl) ?_
        cases h
      · have h := iteF hb3 h
        refine ACode_exit ?_
        cases h
        exact Weak_keep 0 hm [1] [] _ _ rfl rfl rfl
  intro E' H' hw
  refine ACode_weak hw ?_
  have h := hks5
  refine ACode_seq (ACode_region ?_)
  refine AOps_q 18 _ rfl rfl rfl (QOp_move _ _ rfl rfl) ?_
  refine AOps_q 4 _ rfl rfl rfl (QOp_assign _ _ rfl rfl) ?_
  refine AOps_nil ?_
  refine ACode_ret ?_
  cases h
  exact ⟨_, _, fun r a w h => ⟨r, h⟩, _, _, [], _, (.cons (ResV_tmp _ _ rfl) .nil), rfl, rfl, rfl, rfl, rfl⟩

-- loop.example/g01362/laws.heldInt64S
def laws_heldInt64S_l0 (p0 : List Int) : Nat → Int → Int → Option (Sum (Int) (Int))
  | 0, _, _ => none
  | k0 + 1, x1, x2 => (if decide (x2 < (p0.length : Int)) then (if 0 ≤ x2 ∧ x2 < (p0.length : Int) then (if !decide ((p0.getD x2.toNat 0) = x1) then some (.inr (-1)) else laws_heldInt64S_l0 p0 k0 (w64 (x1 + 1)) (w64 (x2 + 1))) else none) else some (.inl x1))
def laws_heldInt64S (k : Nat) (p0 : List Int) (p1 : Int) : Option (Int) :=
  (laws_heldInt64S_l0 p0 k p1 0 : Option (Sum (Int) (Int))).bind fun os6 => (match os6 with | .inl s6 => some s6 | .inr rr => some rr)
set_option maxRecDepth 100000 in
theorem laws_heldInt64S_ac (k : Nat) (p0 : List Int) (p1 : Int) (r : Int) (h : laws_heldInt64S k p0 p1 = some r) : AC Try.prog 23 [.d (.sl none (intsD p0)), iV p1] [] (fun res H' => res = [iV r] ∧ H' = []) := by
  refine AC_of_body true Try.func23 rfl Try.ntmps23 (rvs := [.tmp 4]) rfl rfl (fun G hG => ?_)
  have hm : G.H.length = 0 := by rw [hG]; rfl
  have hz : zeroG G.H = true := by rw [hG]; rfl
  unfold laws_heldInt64S at h
  refine ACode_seq (ACode_region ?_)
  refine AOps_q 4 _ rfl rfl rfl (QOp_assign _ _ rfl rfl) ?_
  refine AOps_nil ?_
  obtain ⟨os6, hss6, hks6⟩ := bindO h
  clear h
  refine ACode_seqJ (fun E' H' => ∃ s6 : Int, os6 = .inl s6 ∧ Weak 21 G E' H' [(1, iV s6)] []) ?_ ?_
  · have h := hss6
    clear hss6
    refine ACode_seq (ACode_region ?_)
    refine AOps_q 5 _ rfl rfl rfl (QOp_assign _ _ rfl rfl) ?_
    refine AOps_nil ?_
    refine ACode_block ?_
    refine ACode_loopW (fun k0 E H => ∃ (x1 : Int) (x2 : Int), E = [(0, .d (.sl none (intsD p0))), (1, iV x1), (5, iV x2)] ∧ H = [] ∧ laws_heldInt64S_l0 p0 k0 x1 x2 = some os6) k _ _ (Weak_keep 0 hm [0, 1, 5] [] _ _ rfl rfl rfl) ⟨_, _, rfl, rfl, h⟩ ?_
    clear h
    rintro k0 E H ⟨x1, x2, rfl, rfl, h⟩
    cases k0 with
    | zero => cases (show (none : Option (Sum (Int) (Int))) = some _ from h)
    | succ k0 =>
      rw [laws_heldInt64S_l0] at h
      refine ACode_seq ?_
      refine ACode_seq (ACode_region ?_)
      refine AOps_q 6 _ rfl rfl rfl (QOp_move _ _ rfl rfl) ?_
      refine AOps_q 7 _ rfl rfl rfl (QOp_move _ _ rfl rfl) ?_
      refine AOps_q 8 _ rfl rfl rfl (QOp_len_sl _ _ _ _ _ _ _ (intsD_length _) rfl rfl rfl rfl Try.underlying25 rfl) ?_
      refine AOps_q 9 _ rfl rfl rfl (QOp_lss _ _ _ _ _ _ _ rfl rfl rfl) ?_
      refine AOps_nil ?_
      refine ACode_cond _ rfl (fun hb3 => ?_) (fun hb3 => ?_)
      · have h := iteT hb3 h
        refine ACode_skip ?_
        refine ACode_seq ?_
        refine ACode_block ?_
        refine ACode_seq ?_
        refine ACode_seq (ACode_region ?_)
        refine AOps_q 12 _ rfl rfl rfl (QOp_move _ _ rfl rfl) ?_
        refine AOps_q 13 _ rfl rfl rfl (QOp_move _ _ rfl rfl) ?_
        obtain ⟨hc4, h⟩ := guardO h
        refine AOps_q 14 _ rfl rfl rfl (QOp_indexAddr_sl _ _ _ _ _ _ _ _ rfl Try.underlying25 Try.sizeOf2 hc4.1 (by rw [intsD_length]; exact hc4.2) rfl rfl) ?_
        refine AOps_q 15 _ rfl rfl rfl (QOp_load_pv _ _ _ _ _ rfl Try.isAgg2 rfl (intsD_get _ _ 0 (by omega))) ?_
        refine AOps_q 16 _ rfl rfl rfl (QOp_move _ _ rfl rfl) ?_
        refine AOps_q 17 _ rfl rfl rfl (QOp_neq _ _ _ _ _ _ _ rfl rfl rfl) ?_
        refine AOps_nil ?_
        refine ACode_cond _ rfl (fun hb5 => ?_) (fun hb5 => ?_)
        · have h := iteT hb5 h
          refine ACode_seq (ACode_region ?_)
          refine AOps_q 4 _ rfl rfl rfl (QOp_assign _ _ rfl rfl) ?_
          refine AOps_nil ?_
          refine ACode_ret ?_
          cases h
          have h := hks6
          cases h
          exact ⟨_, _, fun r a w h => ⟨r, h⟩, _, _, [], _, (.cons (ResV_tmp _ _ rfl) .nil), rfl, rfl, rfl, rfl, rfl⟩
        · have h := iteF hb5 h
          refine ACode_skip ?_
          refine (ACode_region ?_)
          refine AOps_q 18 _ rfl rfl rfl (QOp_move _ _ rfl rfl) ?_
          refine AOps_q 19 _ rfl rfl rfl (QOp_add _ _ _ _ _ _ _ rfl rfl rfl) ?_
          refine AOps_q 1 _ rfl rfl rfl (QOp_assign _ _ rfl rfl) ?_
          refine AOps_nil ?_
          refine (ACode_region ?_)
          refine AOps_q 10 _ rfl rfl rfl (QOp_move _ _ rfl rfl) ?_
          refine AOps_q 11 _ rfl rfl rfl (QOp_add _ _ _ _ _ _ _ rfl rfl rfl) ?_
          refine AOps_q 5 _ rfl rfl rfl (QOp_assign _ _ rfl rfl) ?_
          refine AOps_nil ?_
          exact ⟨k0, _, _, Nat.lt_succ_self _, Weak_keep 0 hm [0, 1, 5] [] _ _ rfl rfl rfl, _, _, rfl, rfl, h⟩
      · have h := iteF hb3 h
        refine ACode_exit ?_
        cases h
        exact ⟨_, rfl, Weak_keep 0 hm [1] [] _ _ rfl rfl rfl⟩
  rintro E' H' ⟨s6, rfl, hw⟩
  refine ACode_weak hw ?_
  have h := hks6
  refine ACode_seq (ACode_region ?_)
  refine AOps_q 20 _ rfl rfl rfl (QOp_move _ _ rfl rfl) ?_
  refine AOps_q 4 _ rfl rfl rfl (QOp_assign _ _ rfl rfl) ?_
  refine AOps_nil ?_
  refine ACode_ret ?_
  cases h
  exact ⟨_, _, fun r a w h => ⟨r, h⟩, _, _, [], _, (.cons (ResV_tmp _ _ rfl) .nil), rfl, rfl, rfl, rfl, rfl⟩

-- loop.example/g01362/laws.FnExactRenumberPosition
def laws_FnExactRenumberPosition (k : Nat) (p0 : Int) (p1 : List Int) (p2 : List Int) : Option (Bool) :=
  (if decide (1048576 < (p1.length : Int)) then some true else (if decide (1048576 < (p2.length : Int)) then some true else (laws_toInt64S k p1).bind fun r3 => (laws_toInt64S k p2).bind fun r4 => (spec_RenumberPosition k p0 r3 r4).bind fun r5 => (laws_toInt64S k p1).bind fun r6 => (laws_toInt64S k p2).bind fun r7 => (impl_RenumberPosition k p0 r6 r7).bind fun r8 => (match r8.1 with | none => (((laws_eqInt64S k ([]) r5.1).bind fun r11 => (if !r11 then some true else some (!decide (r8.2 = r5.2))) : Option (Bool)).bind fun s13 => (if s13 then some (.inr false) else some (.inl ())) : Option (Sum (Unit) (Bool))).bind fun os15 => (match os15 with | .inl s15 => (laws_toInt64S k p1).bind fun r16 => (laws_eqInt64S k r6 r16).bind fun r17 => (if !r17 then some false else (laws_toInt64S k p2).bind fun r19 => (laws_eqInt64S k r7 r19).bind fun r20 => (if !r20 then some false else (laws_markInt64S k r6 1).bind fun r22 => (laws_markInt64S k r7 r22.1).bind fun r23 => (((if decide (r23.1 < 0) then some true else (laws_eqInt64S k ([]) r5.1).bind fun r25 => (if !r25 then some true else some (!decide (r8.2 = r5.2)))) : Option (Bool)).bind fun s27 => (if s27 then some (.inr false) else some (.inl ())) : Option (Sum (Unit) (Bool))).bind fun os29 => (match os29 with | .inl s29 => (laws_markInt64S_d0 k ([]) 1).bind fun r30 => (laws_heldInt64S k ([]) 1).bind fun r31 => (if decide (r31 < 0) then some false else (if !decide (r31 = r30) then some false else (laws_toInt64S k p1).bind fun r34 => (laws_toInt64S k p2).bind fun r35 => (impl_RenumberPosition k p0 r34 r35).bind fun r36 => (match r36.1 with | none => (((laws_eqInt64S k ([]) r5.1).bind fun r39 => (if !r39 then some true else some (!decide (r36.2 = r5.2))) : Option (Bool)).bind fun s41 => (if s41 then some (.inr false) else some (.inl ())) : Option (Sum (Unit) (Bool))).bind fun os43 => (match os43 with | .inl s43 => (laws_heldInt64S k ([]) 1).bind fun r44 => (if decide (r44 < 0) then some false else (if !decide (r44 = r30) then some false else some true)) | .inr rr => some rr) | some l37 => (((laws_eqInt64S k l37 r5.1).bind fun r47 => (if !r47 then some true else some (!decide (r36.2 = r5.2))) : Option (Bool)).bind fun s49 => (if s49 then some (.inr false) else some (.inl ())) : Option (Sum (Unit) (Bool))).bind fun os51 => (match os51 with | .inl s51 => (laws_heldInt64S k ([]) 1).bind fun r52 => (if decide (r52 < 0) then some false else (if !decide (r52 = r30) then some false else some true)) | .inr rr => some rr)))) | .inr rr => some rr))) | .inr rr => some rr) | some l9 => (((laws_eqInt64S k l9 r5.1).bind fun r55 => (if !r55 then some true else some (!decide (r8.2 = r5.2))) : Option (Bool)).bind fun s57 => (if s57 then some (.inr false) else some (.inl ())) : Option (Sum (Unit) (Bool))).bind fun os59 => (match os59 with | .inl s59 => (laws_toInt64S k p1).bind fun r60 => (laws_eqInt64S k r6 r60).bind fun r61 => (if !r61 then some false else (laws_toInt64S k p2).bind fun r63 => (laws_eqInt64S k r7 r63).bind fun r64 => (if !r64 then some false else (laws_markInt64S k r6 1).bind fun r66 => (laws_markInt64S k r7 r66.1).bind fun r67 => (((if decide (r67.1 < 0) then some true else (laws_eqInt64S k l9 r5.1).bind fun r69 => (if !r69 then some true else some (!decide (r8.2 = r5.2)))) : Option (Bool)).bind fun s71 => (if s71 then some (.inr false) else some (.inl ())) : Option (Sum (Unit) (Bool))).bind fun os73 => (match os73 with | .inl s73 => (laws_markInt64S k l9 1).bind fun r74 => (laws_heldInt64S k r74.2 1).bind fun r75 => (if decide (r75 < 0) then some false else (if !decide (r75 = r74.1) then some false else (laws_toInt64S k p1).bind fun r78 => (laws_toInt64S k p2).bind fun r79 => (impl_RenumberPosition k p0 r78 r79).bind fun r80 => (match r80.1 with | none => (((laws_eqInt64S k ([]) r5.1).bind fun r83 => (if !r83 then some true else some (!decide (r80.2 = r5.2))) : Option (Bool)).bind fun s85 => (if s85 then some (.inr false) else some (.inl ())) : Option (Sum (Unit) (Bool))).bind fun os87 => (match os87 with | .inl s87 => (laws_heldInt64S k r74.2 1).bind fun r88 => (if decide (r88 < 0) then some false else (if !decide (r88 = r74.1) then some false else some true)) | .inr rr => some rr) | some l81 => (((laws_eqInt64S k l81 r5.1).bind fun r91 => (if !r91 then some true else some (!decide (r80.2 = r5.2))) : Option (Bool)).bind fun s93 => (if s93 then some (.inr false) else some (.inl ())) : Option (Sum (Unit) (Bool))).bind fun os95 => (match os95 with | .inl s95 => (laws_heldInt64S k r74.2 1).bind fun r96 => (if decide (r96 < 0) then some false else (if !decide (r96 = r74.1) then some false else some true)) | .inr rr => some rr)))) | .inr rr => some rr))) | .inr rr => some rr))))
set_option maxRecDepth 100000 in
theorem laws_FnExactRenumberPosition_ac (k : Nat) (p0 : Int) (p1 : List Int) (p2 : List Int) (r : Bool) (h : laws_FnExactRenumberPosition k p0 p1 p2 = some r) : AC Try.prog 5 [iV p0, .d (.sl none (intsD p1)), .d (.sl none (intsD p2))] [] (fun res H' => res = [bV r] ∧ H' = []) := by
  refine AC_of_body true Try.func5 rfl Try.ntmps5 (rvs := [.tmp 6]) rfl rfl (fun G hG => ?_)
  have hm : G.H.length = 0 := by rw [hG]; rfl
  have hz : zeroG G.H = true := by rw [hG]; rfl
  unfold laws_FnExactRenumberPosition at h
  refine ACode_seq (ACode_region ?_)
  refine AOps_q 6 _ rfl rfl rfl (QOp_assign _ _ rfl rfl) ?_
  refine AOps_nil ?_
  refine ACode_seq ?_
  refine ACode_seq (ACode_region ?_)
  refine AOps_q 18 _ rfl rfl rfl (QOp_move _ _ rfl rfl) ?_
  refine AOps_q 19 _ rfl rfl rfl (QOp_len_sl _ _ _ _ _ _ _ (intsD_length _) rfl rfl rfl rfl Try.underlying25 rfl) ?_
  refine AOps_q 20 _ rfl rfl rfl (QOp_gtr _ _ _ _ _ _ _ rfl rfl rfl) ?_
  refine AOps_nil ?_
  refine ACode_cond _ rfl (fun hb1 => ?_) (fun hb1 => ?_)
  · have h := iteT hb1 h
    refine ACode_seq (ACode_region ?_)
    refine AOps_q 6 _ rfl rfl rfl (QOp_assign _ _ rfl rfl) ?_
    refine AOps_nil ?_
    refine ACode_ret ?_
    cases h
    exact ⟨_, _, fun r a w h => ⟨r, h⟩, _, _, [], _, (.cons (ResV_tmp _ _ rfl) .nil), rfl, rfl, rfl, rfl, rfl⟩
  · have h := iteF hb1 h
    refine ACode_skip ?_
    refine ACode_seq ?_
    refine ACode_seq (ACode_region ?_)
    refine AOps_q 21 _ rfl rfl rfl (QOp_move _ _ rfl rfl) ?_
    refine AOps_q 22 _ rfl rfl rfl (QOp_len_sl _ _ _ _ _ _ _ (intsD_length _) rfl rfl rfl rfl Try.underlying25 rfl) ?_
    refine AOps_q 23 _ rfl rfl rfl (QOp_gtr _ _ _ _ _ _ _ rfl rfl rfl) ?_
    refine AOps_nil ?_
    refine ACode_cond _ rfl (fun hb2 => ?_) (fun hb2 => ?_)
    · have h := iteT hb2 h
      refine ACode_seq (ACode_region ?_)
      refine AOps_q 6 _ rfl rfl rfl (QOp_assign _ _ rfl rfl) ?_
      refine AOps_nil ?_
      refine ACode_ret ?_
      cases h
      exact ⟨_, _, fun r a w h => ⟨r, h⟩, _, _, [], _, (.cons (ResV_tmp _ _ rfl) .nil), rfl, rfl, rfl, rfl, rfl⟩
    · have h := iteF hb2 h
      refine ACode_skip ?_
      refine ACode_seq (ACode_region ?_)
      refine AOps_q 25 _ rfl rfl rfl (QOp_move _ _ rfl rfl) ?_
      refine AOps_q 26 _ rfl rfl rfl (QOp_move _ _ rfl rfl) ?_
      obtain ⟨r3, hr3, h⟩ := bindO h
      refine AOps_call [] 27 _ _ _ _ _ _ _ _ _ _ rfl rfl rfl rfl rfl rfl rfl Try.call12 rfl (nodupB_sound _ rfl) rfl rfl rfl (laws_toInt64S_ac k p1 _ hr3) ?_
      rintro _ _ ⟨rfl, rfl⟩
      refine ⟨(allc (fun _ _ => trivial) (fun _ h => nomatch h)), (allc (trivial) (fun _ h => nomatch h)), AOps_as 27 (v' := .vec 0 0) (H' := [.vec 0 (intsD r3)]) rfl rfl ?_⟩
      refine AOps_q 28 _ rfl rfl rfl (QOp_move _ _ rfl rfl) ?_
      obtain ⟨r4, hr4, h⟩ := bindO h
      refine AOps_call [] 29 _ _ _ _ _ _ _ _ _ _ rfl rfl rfl rfl rfl rfl rfl Try.call12 rfl (nodupB_sound _ rfl) rfl rfl rfl (laws_toInt64S_ac k p2 _ hr4) ?_
      rintro _ _ ⟨rfl, rfl⟩
      refine ⟨(allc (fun _ _ => trivial) (fun _ h => nomatch h)), (allc (trivial) (fun _ h => nomatch h)), AOps_as 29 (v' := .vec 1 0) (H' := [.vec 0 (intsD r3), .vec 0 (intsD r4)]) rfl rfl ?_⟩
      refine AOps_freezeL [27] 0 0 _ (allc (rfl) (fun _ h => nomatch h)) rfl ?_
      refine AOps_freezeL [29] 1 0 _ (allc (rfl) (fun _ h => nomatch h)) rfl ?_
      obtain ⟨r5, hr5, h⟩ := bindO h
      refine AOps_call [] 30 _ _ _ _ _ _ _ _ _ _ rfl rfl rfl rfl rfl rfl rfl Try.call21 rfl (nodupB_sound _ rfl) rfl rfl rfl (spec_RenumberPosition_ac k p0 r3 r4 _ hr5) ?_
      rintro _ _ ⟨rfl, rfl⟩
      refine ⟨(fun _ h => nomatch h), (allc (trivial) (allc (trivial) (fun _ h => nomatch h))), AOps_as 30 (v' := .tup [.d (.sl none (intsD r5.1)), iV r5.2]) (H' := [.gone, .gone]) rfl rfl ?_⟩
      refine AOps_q 24 _ rfl rfl rfl (QOp_move _ _ rfl rfl) ?_
      refine AOps_q 31 _ rfl rfl rfl (QOp_extract _ _ _ _ rfl rfl rfl) ?_
      refine AOps_q 32 _ rfl rfl rfl (QOp_extract _ _ _ _ rfl rfl rfl) ?_
      refine AOps_q 7 _ rfl rfl rfl (QOp_assign _ _ rfl rfl) ?_
      refine AOps_q 8 _ rfl rfl rfl (QOp_assign _ _ rfl rfl) ?_
      refine AOps_nil ?_
      refine ACode_seq (ACode_region ?_)
      refine AOps_q 33 _ rfl rfl rfl (QOp_move _ _ rfl rfl) ?_
      obtain ⟨r6, hr6, h⟩ := bindO h
      refine AOps_call [] 34 _ _ _ _ _ _ _ _ _ _ rfl rfl rfl rfl rfl rfl rfl Try.call12 rfl (nodupB_sound _ rfl) rfl rfl rfl (laws_toInt64S_ac k p1 _ hr6) ?_
      rintro _ _ ⟨rfl, rfl⟩
      refine ⟨(allc (fun _ _ => trivial) (fun _ h => nomatch h)), (allc (trivial) (fun _ h => nomatch h)), AOps_as 34 (v' := .vec 2 0) (H' := [.gone, .gone, .vec 0 (intsD r6)]) rfl rfl ?_⟩
      refine AOps_q 9 _ rfl rfl rfl (QOp_assign _ _ rfl rfl) ?_
      refine AOps_nil ?_
      refine ACode_seq (ACode_region ?_)
      refine AOps_q 35 _ rfl rfl rfl (QOp_move _ _ rfl rfl) ?_
      obtain ⟨r7, hr7, h⟩ := bindO h
      refine AOps_call [] 36 _ _ _ _ _ _ _ _ _ _ rfl rfl rfl rfl rfl rfl rfl Try.call12 rfl (nodupB_sound _ rfl) rfl rfl rfl (laws_toInt64S_ac k p2 _ hr7) ?_
      rintro _ _ ⟨rfl, rfl⟩
      refine ⟨(allc (fun _ _ => trivial) (fun _ h => nomatch h)), (allc (trivial) (fun _ h => nomatch h)), AOps_as 36 (v' := .vec 3 0) (H' := [.gone, .gone, .vec 0 (intsD r6), .vec 0 (intsD r7)]) rfl rfl ?_⟩
      refine AOps_q 10 _ rfl rfl rfl (QOp_assign _ _ rfl rfl) ?_
      refine AOps_nil ?_
      refine ACode_seq (ACode_region ?_)
      refine AOps_q 38 _ rfl rfl rfl (QOp_move _ _ rfl rfl) ?_
      refine AOps_q 39 _ rfl rfl rfl (QOp_move _ _ rfl rfl) ?_
      refine AOps_q 40 _ rfl rfl rfl (QOp_move _ _ rfl rfl) ?_
      obtain ⟨r8, hr8, h⟩ := bindO h
      refine AOps_callL [] 41 _ _ _ _ _ _ _ _ _ _ rfl rfl rfl rfl rfl rfl rfl Try.call22 rfl (nodupB_sound _ rfl) rfl rfl rfl (impl_RenumberPosition_ac k p0 r6 r7 _ hr8) ?_
      revert h
      cases hx10 : r8.1 with
      | none =>
        intro h
        rintro _ _ ⟨rfl, rfl⟩
        refine ⟨(fun _ h => nomatch h), (allc (flat_nil) (allc (flat_s _) (fun _ h => nomatch h))), AOps_as 41 (v' := .tup [.d (.sl (some true) []), iV r8.2]) (H' := [.gone, .gone, .vec 0 (intsD r6), .vec 0 (intsD r7)]) rfl rfl ?_⟩
        refine AOps_q 37 _ rfl rfl rfl (QOp_move _ _ rfl rfl) ?_
        refine AOps_q 42 _ rfl rfl rfl (QOp_extract _ _ _ _ rfl rfl rfl) ?_
        refine AOps_q 43 _ rfl rfl rfl (QOp_extract _ _ _ _ rfl rfl rfl) ?_
        refine AOps_q 11 _ rfl rfl rfl (QOp_assign _ _ rfl rfl) ?_
        refine AOps_q 12 _ rfl rfl rfl (QOp_assign _ _ rfl rfl) ?_
        refine AOps_nil ?_
        obtain ⟨os15, hss15, hks15⟩ := bindO h
        clear h
        refine ACode_seqJ (fun E' H' => ∃ s15 : Unit, os15 = .inl s15 ∧ Weak 119 G E' H' [(0, iV p0), (1, .d (.sl none (intsD p1))), (2, .d (.sl none (intsD p2))), (7, .d (.sl none (intsD r5.1))), (8, iV r5.2), (9, .vec 0 0), (10, .vec 1 0), (11, .d (.sl (some true) [])), (12, iV r8.2)] [.vec 0 (intsD r6), .vec 0 (intsD r7)]) ?_ ?_
        · have h := hss15
          clear hss15
          obtain ⟨s13, hss13, hks13⟩ := bindO h
          clear h
          refine ACode_seqJ (fun E' H' => Weak 119 G E' H' [(0, iV p0), (1, .d (.sl none (intsD p1))), (2, .d (.sl none (intsD p2))), (7, .d (.sl none (intsD r5.1))), (8, iV r5.2), (9, .vec 0 0), (10, .vec 1 0), (11, .d (.sl (some true) [])), (12, iV r8.2), (52, bV s13)] [.vec 0 (intsD r6), .vec 0 (intsD r7)]) ?_ ?_
          · have h := hss13
            clear hss13
            refine (ACode_region ?_)
            refine AOps_q 44 _ rfl rfl rfl (QOp_move _ _ rfl rfl) ?_
            refine AOps_q 45 _ rfl rfl rfl (QOp_move _ _ rfl rfl) ?_
            obtain ⟨r11, hr11, h⟩ := bindO h
            refine AOps_call [] 46 _ _ _ _ _ _ _ _ _ _ rfl rfl rfl rfl rfl rfl rfl Try.call15 rfl (nodupB_sound _ rfl) rfl rfl rfl (laws_eqInt64S_ac k ([]) r5.1 _ hr11) ?_
            rintro _ _ ⟨rfl, rfl⟩
            refine ⟨(fun _ h => nomatch h), (allc (trivial) (fun _ h => nomatch h)), AOps_as 46 (v' := bV r11) (H' := [.gone, .gone, .vec 0 (intsD r6), .vec 0 (intsD r7)]) rfl rfl ?_⟩
            refine AOps_q 47 _ rfl rfl rfl (QOp_not _ _ _ rfl rfl) ?_
            refine AOps_q 48 _ rfl rfl rfl (QOp_move _ _ rfl rfl) ?_
            refine AOps_case 48 _ rfl (fun hb12 => ?_) (fun hb12 => ?_)
            · have h := iteT hb12 h
              refine AOps_skip 49 rfl rfl rfl ?_
              refine AOps_skip 50 rfl rfl rfl ?_
              refine AOps_skip 51 rfl rfl rfl ?_
              refine AOps_q 52 _ rfl rfl rfl (QOp_pick_t _ _ _ _ rfl rfl rfl) ?_
              refine AOps_nil ?_
              cases h
              exact Weak_keep 0 hm [0, 1, 2, 7, 8, 9, 10, 11, 12, 52] [2, 3] _ _ rfl rfl rfl
            · have h := iteF hb12 h
              refine AOps_q 49 _ rfl rfl rfl (QOp_move _ _ rfl rfl) ?_
              refine AOps_q 50 _ rfl rfl rfl (QOp_move _ _ rfl rfl) ?_
              refine AOps_q 51 _ rfl rfl rfl (QOp_neq _ _ _ _ _ _ _ rfl rfl rfl) ?_
              refine AOps_q 52 _ rfl rfl rfl (QOp_pick_f _ _ _ _ rfl rfl rfl) ?_
              refine AOps_nil ?_
              cases h
              exact Weak_keep 0 hm [0, 1, 2, 7, 8, 9, 10, 11, 12, 52] [2, 3] _ _ rfl rfl rfl
          intro E' H' hw
          refine ACode_weak hw ?_
          have h := hks13
          refine ACode_cond _ rfl (fun hb14 => ?_) (fun hb14 => ?_)
          · have h := iteT hb14 h
            refine ACode_seq (ACode_region ?_)
            refine AOps_q 6 _ rfl rfl rfl (QOp_assign _ _ rfl rfl) ?_
            refine AOps_nil ?_
            refine ACode_ret ?_
            cases h
            have h := hks15
            cases h
            exact ⟨_, _, fun r a w h => ⟨r, h⟩, _, _, [], _, (.cons (ResV_tmp _ _ rfl) .nil), rfl, rfl, rfl, rfl, rfl⟩
          · have h := iteF hb14 h
            refine ACode_skip ?_
            cases h
            exact ⟨_, rfl, Weak_keep 0 hm [0, 1, 2, 7, 8, 9, 10, 11, 12] [0, 1] _ _ rfl rfl rfl⟩
        rintro E' H' ⟨s15, rfl, hw⟩
        refine ACode_weak hw ?_
        have h := hks15
        refine ACode_seq ?_
        refine ACode_seq (ACode_region ?_)
        refine AOps_q 53 _ rfl rfl rfl (QOp_move _ _ rfl rfl) ?_
        refine AOps_q 54 _ rfl rfl rfl (QOp_move _ _ rfl rfl) ?_
        obtain ⟨r16, hr16, h⟩ := bindO h
        refine AOps_call [] 55 _ _ _ _ _ _ _ _ _ _ rfl rfl rfl rfl rfl rfl rfl Try.call12 rfl (nodupB_sound _ rfl) rfl rfl rfl (laws_toInt64S_ac k p1 _ hr16) ?_
        rintro _ _ ⟨rfl, rfl⟩
        refine ⟨(allc (fun _ _ => trivial) (fun _ h => nomatch h)), (allc (trivial) (fun _ h => nomatch h)), AOps_as 55 (v' := .vec 2 0) (H' := [.vec 0 (intsD r6), .vec 0 (intsD r7), .vec 0 (intsD r16)]) rfl rfl ?_⟩
        obtain ⟨r17, hr17, h⟩ := bindO h
        refine AOps_callL [] 56 _ _ _ _ _ _ _ _ _ _ rfl rfl rfl rfl rfl rfl rfl Try.call15 rfl (nodupB_sound _ rfl) rfl rfl rfl (laws_eqInt64S_ac k r6 r16 _ hr17) ?_
        rintro _ _ ⟨rfl, rfl⟩
        refine ⟨(fun _ h => nomatch h), (allc (flat_s _) (fun _ h => nomatch h)), AOps_as 56 (v' := bV r17) (H' := [.vec 0 (intsD r6), .vec 0 (intsD r7), .vec 0 (intsD r16)]) rfl rfl ?_⟩
        refine AOps_q 57 _ rfl rfl rfl (QOp_not _ _ _ rfl rfl) ?_
        refine AOps_nil ?_
        refine ACode_cond _ rfl (fun hb18 => ?_) (fun hb18 => ?_)
        · have h := iteT hb18 h
          refine ACode_seq (ACode_region ?_)
          refine AOps_q 6 _ rfl rfl rfl (QOp_assign _ _ rfl rfl) ?_
          refine AOps_nil ?_
          refine ACode_ret ?_
          cases h
          exact ⟨_, _, fun r a w h => ⟨r, h⟩, _, _, [], _, (.cons (ResV_tmp _ _ rfl) .nil), rfl, rfl, rfl, rfl, rfl⟩
        · have h := iteF hb18 h
          refine ACode_skip ?_
          refine ACode_seq ?_
          refine ACode_seq (ACode_region ?_)
          refine AOps_q 58 _ rfl rfl rfl (QOp_move _ _ rfl rfl) ?_
          refine AOps_q 59 _ rfl rfl rfl (QOp_move _ _ rfl rfl) ?_
          obtain ⟨r19, hr19, h⟩ := bindO h
          refine AOps_call [] 60 _ _ _ _ _ _ _ _ _ _ rfl rfl rfl rfl rfl rfl rfl Try.call12 rfl (nodupB_sound _ rfl) rfl rfl rfl (laws_toInt64S_ac k p2 _ hr19) ?_
          rintro _ _ ⟨rfl, rfl⟩
          refine ⟨(allc (fun _ _ => trivial) (fun _ h => nomatch h)), (allc (trivial) (fun _ h => nomatch h)), AOps_as 60 (v' := .vec 3 0) (H' := [.vec 0 (intsD r6), .vec 0 (intsD r7), .vec 0 (intsD r16), .vec 0 (intsD r19)]) rfl rfl ?_⟩
          obtain ⟨r20, hr20, h⟩ := bindO h
          refine AOps_callL [] 61 _ _ _ _ _ _ _ _ _ _ rfl rfl rfl rfl rfl rfl rfl Try.call15 rfl (nodupB_sound _ rfl) rfl rfl rfl (laws_eqInt64S_ac k r7 r19 _ hr20) ?_
          rintro _ _ ⟨rfl, rfl⟩
          refine ⟨(fun _ h => nomatch h), (allc (flat_s _) (fun _ h => nomatch h)), AOps_as 61 (v' := bV r20) (H' := [.vec 0 (intsD r6), .vec 0 (intsD r7), .vec 0 (intsD r16), .vec 0 (intsD r19)]) rfl rfl ?_⟩
          refine AOps_q 62 _ rfl rfl rfl (QOp_not _ _ _ rfl rfl) ?_
          refine AOps_nil ?_
          refine ACode_cond _ rfl (fun hb21 => ?_) (fun hb21 => ?_)
          · have h := iteT hb21 h
            refine ACode_seq (ACode_region ?_)
            refine AOps_q 6 _ rfl rfl rfl (QOp_assign _ _ rfl rfl) ?_
            refine AOps_nil ?_
            refine ACode_ret ?_
            cases h
            exact ⟨_, _, fun r a w h => ⟨r, h⟩, _, _, [], _, (.cons (ResV_tmp _ _ rfl) .nil), rfl, rfl, rfl, rfl, rfl⟩
          · have h := iteF hb21 h
            refine ACode_skip ?_
            refine ACode_seq (ACode_region ?_)
            refine AOps_q 13 _ rfl rfl rfl (QOp_assign _ _ rfl rfl) ?_
            refine AOps_nil ?_
            refine ACode_seq (ACode_region ?_)
            refine AOps_q 63 _ rfl rfl rfl (QOp_move _ _ rfl rfl) ?_
            refine AOps_q 64 _ rfl rfl rfl (QOp_move _ _ rfl rfl) ?_
            obtain ⟨r22, hr22, h⟩ := bindO h
            refine AOps_call [0] 65 _ _ _ _ _ _ _ _ _ _ rfl rfl rfl rfl rfl rfl rfl Try.call16 rfl (nodupB_sound _ rfl) rfl rfl rfl (laws_markInt64S_ac k r6 1 _ hr22) ?_
            rintro _ _ ⟨rfl, rfl⟩
            refine ⟨(allc (fun _ _ => trivial) (fun _ h => nomatch h)), (allc (trivial) (fun _ h => nomatch h)), AOps_as 65 (v' := iV r22.1) (H' := [.vec 0 (intsD r22.2), .vec 0 (intsD r7), .vec 0 (intsD r16), .vec 0 (intsD r19)]) rfl rfl ?_⟩
            refine AOps_q 13 _ rfl rfl rfl (QOp_assign _ _ rfl rfl) ?_
            refine AOps_nil ?_
            refine ACode_seq (ACode_region ?_)
            refine AOps_q 66 _ rfl rfl rfl (QOp_move _ _ rfl rfl) ?_
            refine AOps_q 67 _ rfl rfl rfl (QOp_move _ _ rfl rfl) ?_
            obtain ⟨r23, hr23, h⟩ := bindO h
            refine AOps_call [1] 68 _ _ _ _ _ _ _ _ _ _ rfl rfl rfl rfl rfl rfl rfl Try.call16 rfl (nodupB_sound _ rfl) rfl rfl rfl (laws_markInt64S_ac k r7 r22.1 _ hr23) ?_
            rintro _ _ ⟨rfl, rfl⟩
            refine ⟨(allc (fun _ _ => trivial) (fun _ h => nomatch h)), (allc (trivial) (fun _ h => nomatch h)), AOps_as 68 (v' := iV r23.1) (H' := [.vec 0 (intsD r22.2), .vec 0 (intsD r23.2), .vec 0 (intsD r16), .vec 0 (intsD r19)]) rfl rfl ?_⟩
            refine AOps_q 13 _ rfl rfl rfl (QOp_assign _ _ rfl rfl) ?_
            refine AOps_nil ?_
            obtain ⟨os29, hss29, hks29⟩ := bindO h
            clear h
            refine ACode_seqJ (fun E' H' => ∃ s29 : Unit, os29 = .inl s29 ∧ Weak 119 G E' H' [(0, iV p0), (1, .d (.sl none (intsD p1))), (2, .d (.sl none (intsD p2))), (7, .d (.sl none (intsD r5.1))), (8, iV r5.2), (11, .d (.sl (some true) []))] []) ?_ ?_
            · have h := hss29
              clear hss29
              obtain ⟨s27, hss27, hks27⟩ := bindO h
              clear h
              refine ACode_seqJ (fun E' H' => Weak 119 G E' H' [(0, iV p0), (1, .d (.sl none (intsD p1))), (2, .d (.sl none (intsD p2))), (7, .d (.sl none (intsD r5.1))), (8, iV r5.2), (11, .d (.sl (some true) [])), (81, bV s27)] []) ?_ ?_
              · have h := hss27
                clear hss27
                refine (ACode_region ?_)
                refine AOps_q 69 _ rfl rfl rfl (QOp_move _ _ rfl rfl) ?_
                refine AOps_q 70 _ rfl rfl rfl (QOp_lss _ _ _ _ _ _ _ rfl rfl rfl) ?_
                refine AOps_q 71 _ rfl rfl rfl (QOp_move _ _ rfl rfl) ?_
                refine AOps_case 71 _ rfl (fun hb24 => ?_) (fun hb24 => ?_)
                · have h := iteT hb24 h
                  refine AOps_skip 72 rfl rfl rfl ?_
                  refine AOps_skip 73 rfl rfl rfl ?_
                  refine AOps_skip 74 rfl rfl rfl ?_
                  refine AOps_skip 75 rfl rfl rfl ?_
                  refine AOps_q 76 _ rfl rfl rfl (QOp_pick_t _ _ _ _ rfl rfl rfl) ?_
                  refine AOps_q 77 _ rfl rfl rfl (QOp_move _ _ rfl rfl) ?_
                  refine AOps_skip 78 rfl rfl rfl ?_
                  refine AOps_skip 79 rfl rfl rfl ?_
                  refine AOps_skip 80 rfl rfl rfl ?_
                  refine AOps_q 81 _ rfl rfl rfl (QOp_pick_t _ _ _ _ rfl rfl rfl) ?_
                  refine AOps_nil ?_
                  cases h
                  exact Weak_keep 0 hm [0, 1, 2, 7, 8, 11, 81] [] _ _ rfl rfl rfl
                · have h := iteF hb24 h
                  refine AOps_q 72 _ rfl rfl rfl (QOp_move _ _ rfl rfl) ?_
                  refine AOps_q 73 _ rfl rfl rfl (QOp_move _ _ rfl rfl) ?_
                  obtain ⟨r25, hr25, h⟩ := bindO h
                  refine AOps_call [] 74 _ _ _ _ _ _ _ _ _ _ rfl rfl rfl rfl rfl rfl rfl Try.call15 rfl (nodupB_sound _ rfl) rfl rfl rfl (laws_eqInt64S_ac k ([]) r5.1 _ hr25) ?_
                  rintro _ _ ⟨rfl, rfl⟩
                  refine ⟨(fun _ h => nomatch h), (allc (trivial) (fun _ h => nomatch h)), AOps_as 74 (v' := bV r25) (H' := [.vec 0 (intsD r22.2), .vec 0 (intsD r23.2), .vec 0 (intsD r16), .vec 0 (intsD r19)]) rfl rfl ?_⟩
                  refine AOps_q 75 _ rfl rfl rfl (QOp_not _ _ _ rfl rfl) ?_
                  refine AOps_q 76 _ rfl rfl rfl (QOp_pick_f _ _ _ _ rfl rfl rfl) ?_
                  refine AOps_q 77 _ rfl rfl rfl (QOp_move _ _ rfl rfl) ?_
                  refine AOps_case 77 _ rfl (fun hb26 => ?_) (fun hb26 => ?_)
                  · have h := iteT hb26 h
                    refine AOps_skip 78 rfl rfl rfl ?_
                    refine AOps_skip 79 rfl rfl rfl ?_
                    refine AOps_skip 80 rfl rfl rfl ?_
                    refine AOps_q 81 _ rfl rfl rfl (QOp_pick_t _ _ _ _ rfl rfl rfl) ?_
                    refine AOps_nil ?_
                    cases h
                    exact Weak_keep 0 hm [0, 1, 2, 7, 8, 11, 81] [] _ _ rfl rfl rfl
                  · have h := iteF hb26 h
                    refine AOps_q 78 _ rfl rfl rfl (QOp_move _ _ rfl rfl) ?_
                    refine AOps_q 79 _ rfl rfl rfl (QOp_move _ _ rfl rfl) ?_
                    refine AOps_q 80 _ rfl rfl rfl (QOp_neq _ _ _ _ _ _ _ rfl rfl rfl) ?_
                    refine AOps_q 81 _ rfl rfl rfl (QOp_pick_f _ _ _ _ rfl rfl rfl) ?_
                    refine AOps_nil ?_
                    cases h
                    exact Weak_keep 0 hm [0, 1, 2, 7, 8, 11, 81] [] _ _ rfl rfl rfl
              intro E' H' hw
              refine ACode_weak hw ?_
              have h := hks27
              refine ACode_cond _ rfl (fun hb28 => ?_) (fun hb28 => ?_)
              · have h := iteT hb28 h
                refine ACode_seq (ACode_region ?_)
                refine AOps_q 6 _ rfl rfl rfl (QOp_assign _ _ rfl rfl) ?_
                refine AOps_nil ?_
                refine ACode_ret ?_
                cases h
                have h := hks29
                cases h
                exact ⟨_, _, fun r a w h => ⟨r, h⟩, _, _, [], _, (.cons (ResV_tmp _ _ rfl) .nil), rfl, rfl, rfl, rfl, rfl⟩
              · have h := iteF hb28 h
                refine ACode_skip ?_
                cases h
                exact ⟨_, rfl, Weak_keep 0 hm [0, 1, 2, 7, 8, 11] [] _ _ rfl rfl rfl⟩
            rintro E' H' ⟨s29, rfl, hw⟩
            refine ACode_weak hw ?_
            have h := hks29
            refine ACode_seq (ACode_region ?_)
            refine AOps_q 14 _ rfl rfl rfl (QOp_assign _ _ rfl rfl) ?_
            refine AOps_nil ?_
            refine ACode_seq (ACode_region ?_)
            refine AOps_q 82 _ rfl rfl rfl (QOp_move _ _ rfl rfl) ?_
            refine AOps_q 83 _ rfl rfl rfl (QOp_move _ _ rfl rfl) ?_
            obtain ⟨r30, hr30, h⟩ := bindO h
            refine AOps_call [] 84 _ _ _ _ _ _ _ _ _ _ rfl rfl rfl rfl rfl rfl rfl Try.call16 rfl (nodupB_sound _ rfl) rfl rfl rfl (laws_markInt64S_d0_ac k ([]) 1 _ hr30) ?_
            rintro _ _ ⟨rfl, rfl⟩
            refine ⟨(fun _ h => nomatch h), (allc (trivial) (fun _ h => nomatch h)), AOps_as 84 (v' := iV r30) (H' := []) rfl rfl ?_⟩
            refine AOps_q 14 _ rfl rfl rfl (QOp_assign _ _ rfl rfl) ?_
            refine AOps_nil ?_
            refine ACode_seq (ACode_region ?_)
            refine AOps_q 15 _ rfl rfl rfl (QOp_assign _ _ rfl rfl) ?_
            refine AOps_nil ?_
            refine ACode_seq (ACode_region ?_)
            refine AOps_q 85 _ rfl rfl rfl (QOp_move _ _ rfl rfl) ?_
            refine AOps_q 86 _ rfl rfl rfl (QOp_move _ _ rfl rfl) ?_
            obtain ⟨r31, hr31, h⟩ := bindO h
            refine AOps_call [] 87 _ _ _ _ _ _ _ _ _ _ rfl rfl rfl rfl rfl rfl rfl Try.call23 rfl (nodupB_sound _ rfl) rfl rfl rfl (laws_heldInt64S_ac k ([]) 1 _ hr31) ?_
            rintro _ _ ⟨rfl, rfl⟩
            refine ⟨(fun _ h => nomatch h), (allc (trivial) (fun _ h => nomatch h)), AOps_as 87 (v' := iV r31) (H' := []) rfl rfl ?_⟩
            refine AOps_q 15 _ rfl rfl rfl (QOp_assign _ _ rfl rfl) ?_
            refine AOps_nil ?_
            refine ACode_seq ?_
            refine ACode_seq (ACode_region ?_)
            refine AOps_q 88 _ rfl rfl rfl (QOp_move _ _ rfl rfl) ?_
            refine AOps_q 89 _ rfl rfl rfl (QOp_lss _ _ _ _ _ _ _ rfl rfl rfl) ?_
            refine AOps_nil ?_
            refine ACode_cond _ rfl (fun hb32 => ?_) (fun hb32 => ?_)
            · have h := iteT hb32 h
              refine ACode_seq (ACode_region ?_)
              refine AOps_q 6 _ rfl rfl rfl (QOp_assign _ _ rfl rfl) ?_
              refine AOps_nil ?_
              refine ACode_ret ?_
              cases h
              exact ⟨_, _, fun r a w h => ⟨r, h⟩, _, _, [], _, (.cons (ResV_tmp _ _ rfl) .nil), rfl, rfl, rfl, rfl, rfl⟩
            · have h := iteF hb32 h
              refine ACode_skip ?_
              refine ACode_seq ?_
              refine ACode_seq (ACode_region ?_)
              refine AOps_q 90 _ rfl rfl rfl (QOp_move _ _ rfl rfl) ?_
              refine AOps_q 91 _ rfl rfl rfl (QOp_move _ _ rfl rfl) ?_
              refine AOps_q 92 _ rfl rfl rfl (QOp_neq _ _ _ _ _ _ _ rfl rfl rfl) ?_
              refine AOps_nil ?_
              refine ACode_cond _ rfl (fun hb33 => ?_) (fun hb33 => ?_)
              · have h := iteT hb33 h
                refine ACode_seq (ACode_region ?_)
                refine AOps_q 6 _ rfl rfl rfl (QOp_assign _ _ rfl rfl) ?_
                refine AOps_nil ?_
                refine ACode_ret ?_
                cases h
                exact ⟨_, _, fun r a w h => ⟨r, h⟩, _, _, [], _, (.cons (ResV_tmp _ _ rfl) .nil), rfl, rfl, rfl, rfl, rfl⟩
              · have h := iteF hb33 h
                refine ACode_skip ?_
                refine ACode_seq (ACode_region ?_)
                refine AOps_q 94 _ rfl rfl rfl (QOp_move _ _ rfl rfl) ?_
                refine AOps_q 95 _ rfl rfl rfl (QOp_move _ _ rfl rfl) ?_
                obtain ⟨r34, hr34, h⟩ := bindO h
                refine AOps_call [] 96 _ _ _ _ _ _ _ _ _ _ rfl rfl rfl rfl rfl rfl rfl Try.call12 rfl (nodupB_sound _ rfl) rfl rfl rfl (laws_toInt64S_ac k p1 _ hr34) ?_
                rintro _ _ ⟨rfl, rfl⟩
                refine ⟨(allc (fun _ _ => trivial) (fun _ h => nomatch h)), (allc (trivial) (fun _ h => nomatch h)), AOps_as 96 (v' := .vec 0 0) (H' := [.vec 0 (intsD r34)]) rfl rfl ?_⟩
                refine AOps_q 97 _ rfl rfl rfl (QOp_move _ _ rfl rfl) ?_
                obtain ⟨r35, hr35, h⟩ := bindO h
                refine AOps_call [] 98 _ _ _ _ _ _ _ _ _ _ rfl rfl rfl rfl rfl rfl rfl Try.call12 rfl (nodupB_sound _ rfl) rfl rfl rfl (laws_toInt64S_ac k p2 _ hr35) ?_
                rintro _ _ ⟨rfl, rfl⟩
                refine ⟨(allc (fun _ _ => trivial) (fun _ h => nomatch h)), (allc (trivial) (fun _ h => nomatch h)), AOps_as 98 (v' := .vec 1 0) (H' := [.vec 0 (intsD r34), .vec 0 (intsD r35)]) rfl rfl ?_⟩
                obtain ⟨r36, hr36, h⟩ := bindO h
                refine AOps_callL [] 99 _ _ _ _ _ _ _ _ _ _ rfl rfl rfl rfl rfl rfl rfl Try.call22 rfl (nodupB_sound _ rfl) rfl rfl rfl (impl_RenumberPosition_ac k p0 r34 r35 _ hr36) ?_
                revert h
                cases hx38 : r36.1 with
                | none =>
                  intro h
                  rintro _ _ ⟨rfl, rfl⟩
                  refine ⟨(fun _ h => nomatch h), (allc (flat_nil) (allc (flat_s _) (fun _ h => nomatch h))), AOps_as 99 (v' := .tup [.d (.sl (some true) []), iV r36.2]) (H' := [.vec 0 (intsD r34), .vec 0 (intsD r35)]) rfl rfl ?_⟩
                  refine AOps_q 93 _ rfl rfl rfl (QOp_move _ _ rfl rfl) ?_
                  refine AOps_q 100 _ rfl rfl rfl (QOp_extract _ _ _ _ rfl rfl rfl) ?_
                  refine AOps_q 101 _ rfl rfl rfl (QOp_extract _ _ _ _ rfl rfl rfl) ?_
                  refine AOps_q 16 _ rfl rfl rfl (QOp_assign _ _ rfl rfl) ?_
                  refine AOps_q 17 _ rfl rfl rfl (QOp_assign _ _ rfl rfl) ?_
                  refine AOps_nil ?_
                  obtain ⟨os43, hss43, hks43⟩ := bindO h
                  clear h
                  refine ACode_seqJ (fun E' H' => ∃ s43 : Unit, os43 = .inl s43 ∧ Weak 119 G E' H' [(11, .d (.sl (some true) [])), (14, iV r30)] []) ?_ ?_
                  · have h := hss43
                    clear hss43
                    obtain ⟨s41, hss41, hks41⟩ := bindO h
                    clear h
                    refine ACode_seqJ (fun E' H' => Weak 119 G E' H' [(11, .d (.sl (some true) [])), (14, iV r30), (110, bV s41)] []) ?_ ?_
                    · have h := hss41
                      clear hss41
                      refine (ACode_region ?_)
                      refine AOps_q 102 _ rfl rfl rfl (QOp_move _ _ rfl rfl) ?_
                      refine AOps_q 103 _ rfl rfl rfl (QOp_move _ _ rfl rfl) ?_
                      obtain ⟨r39, hr39, h⟩ := bindO h
                      refine AOps_call [] 104 _ _ _ _ _ _ _ _ _ _ rfl rfl rfl rfl rfl rfl rfl Try.call15 rfl (nodupB_sound _ rfl) rfl rfl rfl (laws_eqInt64S_ac k ([]) r5.1 _ hr39) ?_
                      rintro _ _ ⟨rfl, rfl⟩
                      refine ⟨(fun _ h => nomatch h), (allc (trivial) (fun _ h => nomatch h)), AOps_as 104 (v' := bV r39) (H' := [.vec 0 (intsD r34), .vec 0 (intsD r35)]) rfl rfl ?_⟩
                      refine AOps_q 105 _ rfl rfl rfl (QOp_not _ _ _ rfl rfl) ?_
                      refine AOps_q 106 _ rfl rfl rfl (QOp_move _ _ rfl rfl) ?_
                      refine AOps_case 106 _ rfl (fun hb40 => ?_) (fun hb40 => ?_)
                      · have h := iteT hb40 h
                        refine AOps_skip 107 rfl rfl rfl ?_
                        refine AOps_skip 108 rfl rfl rfl ?_
                        refine AOps_skip 109 rfl rfl rfl ?_
                        refine AOps_q 110 _ rfl rfl rfl (QOp_pick_t _ _ _ _ rfl rfl rfl) ?_
                        refine AOps_nil ?_
                        cases h
                        exact Weak_keep 0 hm [11, 14, 110] [] _ _ rfl rfl rfl
                      · have h := iteF hb40 h
                        refine AOps_q 107 _ rfl rfl rfl (QOp_move _ _ rfl rfl) ?_
                        refine AOps_q 108 _ rfl rfl rfl (QOp_move _ _ rfl rfl) ?_
                        refine AOps_q 109 _ rfl rfl rfl (QOp_neq _ _ _ _ _ _ _ rfl rfl rfl) ?_
                        refine AOps_q 110 _ rfl rfl rfl (QOp_pick_f _ _ _ _ rfl rfl rfl) ?_
                        refine AOps_nil ?_
                        cases h
                        exact Weak_keep 0 hm [11, 14, 110] [] _ _ rfl rfl rfl
                    intro E' H' hw
                    refine ACode_weak hw ?_
                    have h := hks41
                    refine ACode_cond _ rfl (fun hb42 => ?_) (fun hb42 => ?_)
                    · have h := iteT hb42 h
                      refine ACode_seq (ACode_region ?_)
                      refine AOps_q 6 _ rfl rfl rfl (QOp_assign _ _ rfl rfl) ?_
                      refine AOps_nil ?_
                      refine ACode_ret ?_
                      cases h
                      have h := hks43
                      cases h
                      exact ⟨_, _, fun r a w h => ⟨r, h⟩, _, _, [], _, (.cons (ResV_tmp _ _ rfl) .nil), rfl, rfl, rfl, rfl, rfl⟩
                    · have h := iteF hb42 h
                      refine ACode_skip ?_
                      cases h
                      exact ⟨_, rfl, Weak_keep 0 hm [11, 14] [] _ _ rfl rfl rfl⟩
                  rintro E' H' ⟨s43, rfl, hw⟩
                  refine ACode_weak hw ?_
                  have h := hks43
                  refine ACode_seq (ACode_region ?_)
                  refine AOps_q 15 _ rfl rfl rfl (QOp_assign _ _ rfl rfl) ?_
                  refine AOps_nil ?_
                  refine ACode_seq (ACode_region ?_)
                  refine AOps_q 111 _ rfl rfl rfl (QOp_move _ _ rfl rfl) ?_
                  refine AOps_q 112 _ rfl rfl rfl (QOp_move _ _ rfl rfl) ?_
                  obtain ⟨r44, hr44, h⟩ := bindO h
                  refine AOps_call [] 113 _ _ _ _ _ _ _ _ _ _ rfl rfl rfl rfl rfl rfl rfl Try.call23 rfl (nodupB_sound _ rfl) rfl rfl rfl (laws_heldInt64S_ac k ([]) 1 _ hr44) ?_
                  rintro _ _ ⟨rfl, rfl⟩
                  refine ⟨(fun _ h => nomatch h), (allc (trivial) (fun _ h => nomatch h)), AOps_as 113 (v' := iV r44) (H' := []) rfl rfl ?_⟩
                  refine AOps_q 15 _ rfl rfl rfl (QOp_assign _ _ rfl rfl) ?_
                  refine AOps_nil ?_
                  refine ACode_seq ?_
                  refine ACode_seq (ACode_region ?_)
                  refine AOps_q 114 _ rfl rfl rfl (QOp_move _ _ rfl rfl) ?_
                  refine AOps_q 115 _ rfl rfl rfl (QOp_lss _ _ _ _ _ _ _ rfl rfl rfl) ?_
                  refine AOps_nil ?_
                  refine ACode_cond _ rfl (fun hb45 => ?_) (fun hb45 => ?_)
                  · have h := iteT hb45 h
                    refine ACode_seq (ACode_region ?_)
                    refine AOps_q 6 _ rfl rfl rfl (QOp_assign _ _ rfl rfl) ?_
                    refine AOps_nil ?_
                    refine ACode_ret ?_
                    cases h
                    exact ⟨_, _, fun r a w h => ⟨r, h⟩, _, _, [], _, (.cons (ResV_tmp _ _ rfl) .nil), rfl, rfl, rfl, rfl, rfl⟩
                  · have h := iteF hb45 h
                    refine ACode_skip ?_
                    refine ACode_seq ?_
                    refine ACode_seq (ACode_region ?_)
                    refine AOps_q 116 _ rfl rfl rfl (QOp_move _ _ rfl rfl) ?_
                    refine AOps_q 117 _ rfl rfl rfl (QOp_move _ _ rfl rfl) ?_
                    refine AOps_q 118 _ rfl rfl rfl (QOp_neq _ _ _ _ _ _ _ rfl rfl rfl) ?_
                    refine AOps_nil ?_
                    refine ACode_cond _ rfl (fun hb46 => ?_) (fun hb46 => ?_)
                    · have h := iteT hb46 h
                      refine ACode_seq (ACode_region ?_)
                      refine AOps_q 6 _ rfl rfl rfl (QOp_assign _ _ rfl rfl) ?_
                      refine AOps_nil ?_
                      refine ACode_ret ?_
                      cases h
                      exact ⟨_, _, fun r a w h => ⟨r, h⟩, _, _, [], _, (.cons (ResV_tmp _ _ rfl) .nil), rfl, rfl, rfl, rfl, rfl⟩
                    · have h := iteF hb46 h
                      refine ACode_skip ?_
                      refine ACode_seq (ACode_region ?_)
                      refine AOps_q 6 _ rfl rfl rfl (QOp_assign _ _ rfl rfl) ?_
                      refine AOps_nil ?_
                      refine ACode_ret ?_
                      cases h
                      exact ⟨_, _, fun r a w h => ⟨r, h⟩, _, _, [], _, (.cons (ResV_tmp _ _ rfl) .nil), rfl, rfl, rfl, rfl, rfl⟩
                | some l37 =>
                  intro h
                  rintro _ _ ⟨rfl, rfl⟩
                  refine ⟨(allc (intsD_flat _) (fun _ h => nomatch h)), (allc (trivial) (allc (flat_s _) (fun _ h => nomatch h))), AOps_as 99 (v' := .tup [.vec 2 0, iV r36.2]) (H' := [.vec 0 (intsD r34), .vec 0 (intsD r35), .vec 0 (intsD l37)]) rfl rfl ?_⟩
                  refine AOps_q 93 _ rfl rfl rfl (QOp_move _ _ rfl rfl) ?_
                  refine AOps_q 100 _ rfl rfl rfl (QOp_extract _ _ _ _ rfl rfl rfl) ?_
                  refine AOps_q 101 _ rfl rfl rfl (QOp_extract _ _ _ _ rfl rfl rfl) ?_
                  refine AOps_q 16 _ rfl rfl rfl (QOp_assign _ _ rfl rfl) ?_
                  refine AOps_q 17 _ rfl rfl rfl (QOp_assign _ _ rfl rfl) ?_
                  refine AOps_nil ?_
                  obtain ⟨os51, hss51, hks51⟩ := bindO h
                  clear h
                  refine ACode_seqJ (fun E' H' => ∃ s51 : Unit, os51 = .inl s51 ∧ Weak 119 G E' H' [(11, .d (.sl (some true) [])), (14, iV r30)] []) ?_ ?_
                  · have h := hss51
                    clear hss51
                    obtain ⟨s49, hss49, hks49⟩ := bindO h
                    clear h
                    refine ACode_seqJ (fun E' H' => Weak 119 G E' H' [(11, .d (.sl (some true) [])), (14, iV r30), (110, bV s49)] []) ?_ ?_
                    · have h := hss49
                      clear hss49
                      refine (ACode_region ?_)
                      refine AOps_q 102 _ rfl rfl rfl (QOp_move _ _ rfl rfl) ?_
                      refine AOps_q 103 _ rfl rfl rfl (QOp_move _ _ rfl rfl) ?_
                      obtain ⟨r47, hr47, h⟩ := bindO h
                      refine AOps_callL [] 104 _ _ _ _ _ _ _ _ _ _ rfl rfl rfl rfl rfl rfl rfl Try.call15 rfl (nodupB_sound _ rfl) rfl rfl rfl (laws_eqInt64S_ac k l37 r5.1 _ hr47) ?_
                      rintro _ _ ⟨rfl, rfl⟩
                      refine ⟨(fun _ h => nomatch h), (allc (flat_s _) (fun _ h => nomatch h)), AOps_as 104 (v' := bV r47) (H' := [.vec 0 (intsD r34), .vec 0 (intsD r35), .vec 0 (intsD l37)]) rfl rfl ?_⟩
                      refine AOps_q 105 _ rfl rfl rfl (QOp_not _ _ _ rfl rfl) ?_
                      refine AOps_q 106 _ rfl rfl rfl (QOp_move _ _ rfl rfl) ?_
                      refine AOps_case 106 _ rfl (fun hb48 => ?_) (fun hb48 => ?_)
                      · have h := iteT hb48 h
                        refine AOps_skip 107 rfl rfl rfl ?_
                        refine AOps_skip 108 rfl rfl rfl ?_
                        refine AOps_skip 109 rfl rfl rfl ?_
                        refine AOps_q 110 _ rfl rfl rfl (QOp_pick_t _ _ _ _ rfl rfl rfl) ?_
                        refine AOps_nil ?_
                        cases h
                        exact Weak_keep 0 hm [11, 14, 110] [] _ _ rfl rfl rfl
                      · have h := iteF hb48 h
                        refine AOps_q 107 _ rfl rfl rfl (QOp_move _ _ rfl rfl) ?_
                        refine AOps_q 108 _ rfl rfl rfl (QOp_move _ _ rfl rfl) ?_
                        refine AOps_q 109 _ rfl rfl rfl (QOp_neq _ _ _ _ _ _ _ rfl rfl rfl) ?_
                        refine AOps_q 110 _ rfl rfl rfl (QOp_pick_f _ _ _ _ rfl rfl rfl) ?_
                        refine AOps_nil ?_
                        cases h
                        exact Weak_keep 0 hm [11, 14, 110] [] _ _ rfl rfl rfl
                    intro E' H' hw
                    refine ACode_weak hw ?_
                    have h := hks49
                    refine ACode_cond _ rfl (fun hb50 => ?_) (fun hb50 => ?_)
                    · have h := iteT hb50 h
                      refine ACode_seq (ACode_region ?_)
                      refine AOps_q 6 _ rfl rfl rfl (QOp_assign _ _ rfl rfl) ?_
                      refine AOps_nil ?_
                      refine ACode_ret ?_
                      cases h
                      have h := hks51
                      cases h
                      exact ⟨_, _, fun r a w h => ⟨r, h⟩, _, _, [], _, (.cons (ResV_tmp _ _ rfl) .nil), rfl, rfl, rfl, rfl, rfl⟩
                    · have h := iteF hb50 h
                      refine ACode_skip ?_
                      cases h
                      exact ⟨_, rfl, Weak_keep 0 hm [11, 14] [] _ _ rfl rfl rfl⟩
                  rintro E' H' ⟨s51, rfl, hw⟩
                  refine ACode_weak hw ?_
                  have h := hks51
                  refine ACode_seq (ACode_region ?_)
                  refine AOps_q 15 _ rfl rfl rfl (QOp_assign _ _ rfl rfl) ?_
                  refine AOps_nil ?_
                  refine ACode_seq (ACode_region ?_)
                  refine AOps_q 111 _ rfl rfl rfl (QOp_move _ _ rfl rfl) ?_
                  refine AOps_q 112 _ rfl rfl rfl (QOp_move _ _ rfl rfl) ?_
                  obtain ⟨r52, hr52, h⟩ := bindO h
                  refine AOps_call [] 113 _ _ _ _ _ _ _ _ _ _ rfl rfl rfl rfl rfl rfl rfl Try.call23 rfl (nodupB_sound _ rfl) rfl rfl rfl (laws_heldInt64S_ac k ([]) 1 _ hr52) ?_
                  rintro _ _ ⟨rfl, rfl⟩
                  refine ⟨(fun _ h => nomatch h), (allc (trivial) (fun _ h => nomatch h)), AOps_as 113 (v' := iV r52) (H' := []) rfl rfl ?_⟩
                  refine AOps_q 15 _ rfl rfl rfl (QOp_assign _ _ rfl rfl) ?_
                  refine AOps_nil ?_
                  refine ACode_seq ?_
                  refine ACode_seq (ACode_region ?_)
                  refine AOps_q 114 _ rfl rfl rfl (QOp_move _ _ rfl rfl) ?_
                  refine AOps_q 115 _ rfl rfl rfl (QOp_lss _ _ _ _ _ _ _ rfl rfl rfl) ?_
                  refine AOps_nil ?_
                  refine ACode_cond _ rfl (fun hb53 => ?_) (fun hb53 => ?_)
                  · have h := iteT hb53 h
                    refine ACode_seq (ACode_region ?_)
                    refine AOps_q 6 _ rfl rfl rfl (QOp_assign _ _ rfl rfl) ?_
                    refine AOps_nil ?_
                    refine ACode_ret ?_
                    cases h
                    exact ⟨_, _, fun r a w h => ⟨r, h⟩, _, _, [], _, (.cons (ResV_tmp _ _ rfl) .nil), rfl, rfl, rfl, rfl, rfl⟩
                  · have h := iteF hb53 h
                    refine ACode_skip ?_
                    refine ACode_seq ?_
                    refine ACode_seq (ACode_region ?_)
                    refine AOps_q 116 _ rfl rfl rfl (QOp_move _ _ rfl rfl) ?_
                    refine AOps_q 117 _ rfl rfl rfl (QOp_move _ _ rfl rfl) ?_
                    refine AOps_q 118 _ rfl rfl rfl (QOp_neq _ _ _ _ _ _ _ rfl rfl rfl) ?_
                    refine AOps_nil ?_
                    refine ACode_cond _ rfl (fun hb54 => ?_) (fun hb54 => ?_)
                    · have h := iteT hb54 h
                      refine ACode_seq (ACode_region ?_)
                      refine AOps_q 6 _ rfl rfl rfl (QOp_assign _ _ rfl rfl) ?_
                      refine AOps_nil ?_
                      refine ACode_ret ?_
                      cases h
                      exact ⟨_, _, fun r a w h => ⟨r, h⟩, _, _, [], _, (.cons (ResV_tmp _ _ rfl) .nil), rfl, rfl, rfl, rfl, rfl⟩
                    · have h := iteF hb54 h
                      refine ACode_skip ?_
                      refine ACode_seq (ACode_region ?_)
                      refine AOps_q 6 _ rfl rfl rfl (QOp_assign _ _ rfl rfl) ?_
                      refine AOps_nil ?_
                      refine ACode_ret ?_
                      cases h
                      exact ⟨_, _, fun r a w h => ⟨r, h⟩, _, _, [], _, (.cons (ResV_tmp _ _ rfl) .nil), rfl, rfl, rfl, rfl, rfl⟩
      | some l9 =>
        intro h
        rintro _ _ ⟨rfl, rfl⟩
        refine ⟨(allc (intsD_flat _) (fun _ h => nomatch h)), (allc (trivial) (allc (flat_s _) (fun _ h => nomatch h))), AOps_as 41 (v' := .tup [.vec 4 0, iV r8.2]) (H' := [.gone, .gone, .vec 0 (intsD r6), .vec 0 (intsD r7), .vec 0 (intsD l9)]) rfl rfl ?_⟩
        refine AOps_q 37 _ rfl rfl rfl (QOp_move _ _ rfl rfl) ?_
        refine AOps_q 42 _ rfl rfl rfl (QOp_extract _ _ _ _ rfl rfl rfl) ?_
        refine AOps_q 43 _ rfl rfl rfl (QOp_extract _ _ _ _ rfl rfl rfl) ?_
        refine AOps_q 11 _ rfl rfl rfl (QOp_assign _ _ rfl rfl) ?_
        refine AOps_q 12 _ rfl rfl rfl (QOp_assign _ _ rfl rfl) ?_
        refine AOps_nil ?_
        obtain ⟨os59, hss59, hks59⟩ := bindO h
        clear h
        refine ACode_seqJ (fun E' H' => ∃ s59 : Unit, os59 = .inl s59 ∧ Weak 119 G E' H' [(0, iV p0), (1, .d (.sl none (intsD p1))), (2, .d (.sl none (intsD p2))), (7, .d (.sl none (intsD r5.1))), (8, iV r5.2), (9, .vec 0 0), (10, .vec 1 0), (11, .vec 2 0), (12, iV r8.2)] [.vec 0 (intsD r6), .vec 0 (intsD r7), .vec 0 (intsD l9)]) ?_ ?_
        · have h := hss59
          clear hss59
          obtain ⟨s57, hss57, hks57⟩ := bindO h
          clear h
          refine ACode_seqJ (fun E' H' => Weak 119 G E' H' [(0, iV p0), (1, .d (.sl none (intsD p1))), (2, .d (.sl none (intsD p2))), (7, .d (.sl none (intsD r5.1))), (8, iV r5.2), (9, .vec 0 0), (10, .vec 1 0), (11, .vec 2 0), (12, iV r8.2), (52, bV s57)] [.vec 0 (intsD r6), .vec 0 (intsD r7), .vec 0 (intsD l9)]) ?_ ?_
          · have h := hss57
            clear hss57
            refine (ACode_region ?_)
            refine AOps_q 44 _ rfl rfl rfl (QOp_move _ _ rfl rfl) ?_
            refine AOps_q 45 _ rfl rfl rfl (QOp_move _ _ rfl rfl) ?_
            obtain ⟨r55, hr55, h⟩ := bindO h
            refine AOps_callL [] 46 _ _ _ _ _ _ _ _ _ _ rfl rfl rfl rfl rfl rfl rfl Try.call15 rfl (nodupB_sound _ rfl) rfl rfl rfl (laws_eqInt64S_ac k l9 r5.1 _ hr55) ?_
            rintro _ _ ⟨rfl, rfl⟩
            refine ⟨(fun _ h => nomatch h), (allc (flat_s _) (fun _ h => nomatch h)), AOps_as 46 (v' := bV r55) (H' := [.gone, .gone, .vec 0 (intsD r6), .vec 0 (intsD r7), .vec 0 (intsD l9)]) rfl rfl ?_⟩
            refine AOps_q 47 _ rfl rfl rfl (QOp_not _ _ _ rfl rfl) ?_
            refine AOps_q 48 _ rfl rfl rfl (QOp_move _ _ rfl rfl) ?_
            refine AOps_case 48 _ rfl (fun hb56 => ?_) (fun hb56 => ?_)
            · have h := iteT hb56 h
              refine AOps_skip 49 rfl rfl rfl ?_
              refine AOps_skip 50 rfl rfl rfl ?_
              refine AOps_skip 51 rfl rfl rfl ?_
              refine AOps_q 52 _ rfl rfl rfl (QOp_pick_t _ _ _ _ rfl rfl rfl) ?_
              refine AOps_nil ?_
              cases h
              exact Weak_keep 0 hm [0, 1, 2, 7, 8, 9, 10, 11, 12, 52] [2, 3, 4] _ _ rfl rfl rfl
            · have h := iteF hb56 h
              refine AOps_q 49 _ rfl rfl rfl (QOp_move _ _ rfl rfl) ?_
              refine AOps_q 50 _ rfl rfl rfl (QOp_move _ _ rfl rfl) ?_
              refine AOps_q 51 _ rfl rfl rfl (QOp_neq _ _ _ _ _ _ _ rfl rfl rfl) ?_
              refine AOps_q 52 _ rfl rfl rfl (QOp_pick_f _ _ _ _ rfl rfl rfl) ?_
              refine AOps_nil ?_
              cases h
              exact Weak_keep 0 hm [0, 1, 2, 7, 8, 9, 10, 11, 12, 52] [2, 3, 4] _ _ rfl rfl rfl
          intro E' H' hw
          refine ACode_weak hw ?_
          have h := hks57
          refine ACode_cond _ rfl (fun hb58 => ?_) (fun hb58 => ?_)
          · have h := iteT hb58 h
            refine ACode_seq (ACode_region ?_)
            refine AOps_q 6 _ rfl rfl rfl (QOp_assign _ _ rfl rfl) ?_
            refine AOps_nil ?_
            refine ACode_ret ?_
            cases h
            have h := hks59
            cases h
            exact ⟨_, _, fun r a w h => ⟨r, h⟩, _, _, [], _, (.cons (ResV_tmp _ _ rfl) .nil), rfl, rfl, rfl, rfl, rfl⟩
          · have h := iteF hb58 h
            refine ACode_skip ?_
            cases h
            exact ⟨_, rfl, Weak_keep 0 hm [0, 1, 2, 7, 8, 9, 10, 11, 12] [0, 1, 2] _ _ rfl rfl rfl⟩
        rintro E' H' ⟨s59, rfl, hw⟩
        refine ACode_weak hw ?_
        have h := hks59
        refine ACode_seq ?_
        refine ACode_seq (ACode_region ?_)
        refine AOps_q 53 _ rfl rfl rfl (QOp_move _ _ rfl rfl) ?_
        refine AOps_q 54 _ rfl rfl rfl (QOp_move _ _ rfl rfl) ?_
        obtain ⟨r60, hr60, h⟩ := bindO h
        refine AOps_call [] 55 _ _ _ _ _ _ _ _ _ _ rfl rfl rfl rfl rfl rfl rfl Try.call12 rfl (nodupB_sound _ rfl) rfl rfl rfl (laws_toInt64S_ac k p1 _ hr60) ?_
        rintro _ _ ⟨rfl, rfl⟩
        refine ⟨(allc (fun _ _ => trivial) (fun _ h => nomatch h)), (allc (trivial) (fun _ h => nomatch h)), AOps_as 55 (v' := .vec 3 0) (H' := [.vec 0 (intsD r6), .vec 0 (intsD r7), .vec 0 (intsD l9), .vec 0 (intsD r60)]) rfl rfl ?_⟩
        obtain ⟨r61, hr61, h⟩ := bindO h
        refine AOps_callL [] 56 _ _ _ _ _ _ _ _ _ _ rfl rfl rfl rfl rfl rfl rfl Try.call15 rfl (nodupB_sound _ rfl) rfl rfl rfl (laws_eqInt64S_ac k r6 r60 _ hr61) ?_
        rintro _ _ ⟨rfl, rfl⟩
        refine ⟨(fun _ h => nomatch h), (allc (flat_s _) (fun _ h => nomatch h)), AOps_as 56 (v' := bV r61) (H' := [.vec 0 (intsD r6), .vec 0 (intsD r7), .vec 0 (intsD l9), .vec 0 (intsD r60)]) rfl rfl ?_⟩
        refine AOps_q 57 _ rfl rfl rfl (QOp_not _ _ _ rfl rfl) ?_
        refine AOps_nil ?_
        refine ACode_cond _ rfl (fun hb62 => ?_) (fun hb62 => ?_)
        · have h := iteT hb62 h
          refine ACode_seq (ACode_region ?_)
          refine AOps_q 6 _ rfl rfl rfl (QOp_assign _ _ rfl rfl) ?_
          refine AOps_nil ?_
          refine ACode_ret ?_
          cases h
          exact ⟨_, _, fun r a w h => ⟨r, h⟩, _, _, [], _, (.cons (ResV_tmp _ _ rfl) .nil), rfl, rfl, rfl, rfl, rfl⟩
        · have h := iteF hb62 h
          refine ACode_skip ?_
          refine ACode_seq ?_
          refine ACode_seq (ACode_region ?_)
          refine AOps_q 58 _ rfl rfl rfl (QOp_move _ _ rfl rfl) ?_
          refine AOps_q 59 _ rfl rfl rfl (QOp_move _ _ rfl rfl) ?_
          obtain ⟨r63, hr63, h⟩ := bindO h
          refine AOps_call [] 60 _ _ _ _ _ _ _ _ _ _ rfl rfl rfl rfl rfl rfl rfl Try.call12 rfl (nodupB_sound _ rfl) rfl rfl rfl (laws_toInt64S_ac k p2 _ hr63) ?_
          rintro _ _ ⟨rfl, rfl⟩
          refine ⟨(allc (fun _ _ => trivial) (fun _ h => nomatch h)), (allc (trivial) (fun _ h => nomatch h)), AOps_as 60 (v' := .vec 4 0) (H' := [.vec 0 (intsD r6), .vec 0 (intsD r7), .vec 0 (intsD l9), .vec 0 (intsD r60), .vec 0 (intsD r63)]) rfl rfl ?_⟩
          obtain ⟨r64, hr64, h⟩ := bindO h
          refine AOps_callL [] 61 _ _ _ _ _ _ _ _ _ _ rfl rfl rfl rfl rfl rfl rfl Try.call15 rfl (nodupB_sound _ rfl) rfl rfl rfl (laws_eqInt64S_ac k r7 r63 _ hr64) ?_
          rintro _ _ ⟨rfl, rfl⟩
          refine ⟨(fun _ h => nomatch h), (allc (flat_s _) (fun _ h => nomatch h)), AOps_as 61 (v' := bV r64) (H' := [.vec 0 (intsD r6), .vec 0 (intsD r7), .vec 0 (intsD l9), .vec 0 (intsD r60), .vec 0 (intsD r63)]) rfl rfl ?_⟩
          refine AOps_q 62 _ rfl rfl rfl (QOp_not _ _ _ rfl rfl) ?_
          refine AOps_nil ?_
          refine ACode_cond _ rfl (fun hb65 => ?_) (fun hb65 => ?_)
          · have h := iteT hb65 h
            refine ACode_seq (ACode_region ?_)
            refine AOps_q 6 _ rfl rfl rfl (QOp_assign _ _ rfl rfl) ?_
            refine AOps_nil ?_
            refine ACode_ret ?_
            cases h
            exact ⟨_, _, fun r a w h => ⟨r, h⟩, _, _, [], _, (.cons (ResV_tmp _ _ rfl) .nil), rfl, rfl, rfl, rfl, rfl⟩
          · have h := iteF hb65 h
            refine ACode_skip ?_
            refine ACode_seq (ACode_region ?_)
            refine AOps_q 13 _ rfl rfl rfl (QOp_assign _ _ rfl rfl) ?_
            refine AOps_nil ?_
            refine ACode_seq (ACode_region ?_)
            refine AOps_q 63 _ rfl rfl rfl (QOp_move _ _ rfl rfl) ?_
            refine AOps_q 64 _ rfl rfl rfl (QOp_move _ _ rfl rfl) ?_
            obtain ⟨r66, hr66, h⟩ := bindO h
            refine AOps_call [0] 65 _ _ _ _ _ _ _ _ _ _ rfl rfl rfl rfl rfl rfl rfl Try.call16 rfl (nodupB_sound _ rfl) rfl rfl rfl (laws_markInt64S_ac k r6 1 _ hr66) ?_
            rintro _ _ ⟨rfl, rfl⟩
            refine ⟨(allc (fun _ _ => trivial) (fun _ h => nomatch h)), (allc (trivial) (fun _ h => nomatch h)), AOps_as 65 (v' := iV r66.1) (H' := [.vec 0 (intsD r66.2), .vec 0 (intsD r7), .vec 0 (intsD l9), .vec 0 (intsD r60), .vec 0 (intsD r63)]) rfl rfl ?_⟩
            refine AOps_q 13 _ rfl rfl rfl (QOp_assign _ _ rfl rfl) ?_
            refine AOps_nil ?_
            refine ACode_seq (ACode_region ?_)
            refine AOps_q 66 _ rfl rfl rfl (QOp_move _ _ rfl rfl) ?_
            refine AOps_q 67 _ rfl rfl rfl (QOp_move _ _ rfl rfl) ?_
            obtain ⟨r67, hr67, h⟩ := bindO h
            refine AOps_call [1] 68 _ _ _ _ _ _ _ _ _ _ rfl rfl rfl rfl rfl rfl rfl Try.call16 rfl (nodupB_sound _ rfl) rfl rfl rfl (laws_markInt64S_ac k r7 r66.1 _ hr67) ?_
            rintro _ _ ⟨rfl, rfl⟩
            refine ⟨(allc (fun _ _ => trivial) (fun _ h => nomatch h)), (allc (trivial) (fun _ h => nomatch h)), AOps_as 68 (v' := iV r67.1) (H' := [.vec 0 (intsD r66.2), .vec 0 (intsD r67.2), .vec 0 (intsD l9), .vec 0 (intsD r60), .vec 0 (intsD r63)]) rfl rfl ?_⟩
            refine AOps_q 13 _ rfl rfl rfl (QOp_assign _ _ rfl rfl) ?_
            refine AOps_nil ?_
            obtain ⟨os73, hss73, hks73⟩ := bindO h
            clear h
            refine ACode_seqJ (fun E' H' => ∃ s73 : Unit, os73 = .inl s73 ∧ Weak 119 G E' H' [(0, iV p0), (1, .d (.sl none (intsD p1))), (2, .d (.sl none (intsD p2))), (7, .d (.sl none (intsD r5.1))), (8, iV r5.2), (11, .vec 0 0)] [.vec 0 (intsD l9)]) ?_ ?_
            · have h := hss73
              clear hss73
              obtain ⟨s71, hss71, hks71⟩ := bindO h
              clear h
              refine ACode_seqJ (fun E' H' => Weak 119 G E' H' [(0, iV p0), (1, .d (.sl none (intsD p1))), (2, .d (.sl none (intsD p2))), (7, .d (.sl none (intsD r5.1))), (8, iV r5.2), (11, .vec 0 0), (81, bV s71)] [.vec 0 (intsD l9)]) ?_ ?_
              · have h := hss71
                clear hss71
                refine (ACode_region ?_)
                refine AOps_q 69 _ rfl rfl rfl (QOp_move _ _ rfl rfl) ?_
                refine AOps_q 70 _ rfl rfl rfl (QOp_lss _ _ _ _ _ _ _ rfl rfl rfl) ?_
                refine AOps_q 71 _ rfl rfl rfl (QOp_move _ _ rfl rfl) ?_
                refine AOps_case 71 _ rfl (fun hb68 => ?_) (fun hb68 => ?_)
                · have h := iteT hb68 h
                  refine AOps_skip 72 rfl rfl rfl ?_
                  refine AOps_skip 73 rfl rfl rfl ?_
                  refine AOps_skip 74 rfl rfl rfl ?_
                  refine AOps_skip 75 rfl rfl rfl ?_
                  refine AOps_q 76 _ rfl rfl rfl (QOp_pick_t _ _ _ _ rfl rfl rfl) ?_
                  refine AOps_q 77 _ rfl rfl rfl (QOp_move _ _ rfl rfl) ?_
                  refine AOps_skip 78 rfl rfl rfl ?_
                  refine AOps_skip 79 rfl rfl rfl ?_
                  refine AOps_skip 80 rfl rfl rfl ?_
                  refine AOps_q 81 _ rfl rfl rfl (QOp_pick_t _ _ _ _ rfl rfl rfl) ?_
                  refine AOps_nil ?_
                  cases h
                  exact Weak_keep 0 hm [0, 1, 2, 7, 8, 11, 81] [2] _ _ rfl rfl rfl
                · have h := iteF hb68 h
                  refine AOps_q 72 _ rfl rfl rfl (QOp_move _ _ rfl rfl) ?_
                  refine AOps_q 73 _ rfl rfl rfl (QOp_move _ _ rfl rfl) ?_
                  obtain ⟨r69, hr69, h⟩ := bindO h
                  refine AOps_callL [] 74 _ _ _ _ _ _ _ _ _ _ rfl rfl rfl rfl rfl rfl rfl Try.call15 rfl (nodupB_sound _ rfl) rfl rfl rfl (laws_eqInt64S_ac k l9 r5.1 _ hr69) ?_
                  rintro _ _ ⟨rfl, rfl⟩
                  refine ⟨(fun _ h => nomatch h), (allc (flat_s _) (fun _ h => nomatch h)), AOps_as 74 (v' := bV r69) (H' := [.vec 0 (intsD r66.2), .vec 0 (intsD r67.2), .vec 0 (intsD l9), .vec 0 (intsD r60), .vec 0 (intsD r63)]) rfl rfl ?_⟩
                  refine AOps_q 75 _ rfl rfl rfl (QOp_not _ _ _ rfl rfl) ?_
                  refine AOps_q 76 _ rfl rfl rfl (QOp_pick_f _ _ _ _ rfl rfl rfl) ?_
                  refine AOps_q 77 _ rfl rfl rfl (QOp_move _ _ rfl rfl) ?_
                  refine AOps_case 77 _ rfl (fun hb70 => ?_) (fun hb70 => ?_)
                  · have h := iteT hb70 h
                    refine AOps_skip 78 rfl rfl rfl ?_
                    refine AOps_skip 79 rfl rfl rfl ?_
                    refine AOps_skip 80 rfl rfl rfl ?_
                    refine AOps_q 81 _ rfl rfl rfl (QOp_pick_t _ _ _ _ rfl rfl rfl) ?_
                    refine AOps_nil ?_
                    cases h
                    exact Weak_keep 0 hm [0, 1, 2, 7, 8, 11, 81] [2] _ _ rfl rfl rfl
                  · have h := iteF hb70 h
                    refine AOps_q 78 _ rfl rfl rfl (QOp_move _ _ rfl rfl) ?_
                    refine AOps_q 79 _ rfl rfl rfl (QOp_move _ _ rfl rfl) ?_
                    refine AOps_q 80 _ rfl rfl rfl (QOp_neq _ _ _ _ _ _ _ rfl rfl rfl) ?_
                    refine AOps_q 81 _ rfl rfl rfl (QOp_pick_f _ _ _ _ rfl rfl rfl) ?_
                    refine AOps_nil ?_
                    cases h
                    exact Weak_keep 0 hm [0, 1, 2, 7, 8, 11, 81] [2] _ _ rfl rfl rfl
              intro E' H' hw
              refine ACode_weak hw ?_
              have h := hks71
              refine ACode_cond _ rfl (fun hb72 => ?_) (fun hb72 => ?_)
              · have h := iteT hb72 h
                refine ACode_seq (ACode_region ?_)
                refine AOps_q 6 _ rfl rfl rfl (QOp_assign _ _ rfl rfl) ?_
                refine AOps_nil ?_
                refine ACode_ret ?_
                cases h
                have h := hks73
                cases h
                exact ⟨_, _, fun r a w h => ⟨r, h⟩, _, _, [], _, (.cons (ResV_tmp _ _ rfl) .nil), rfl, rfl, rfl, rfl, rfl⟩
              · have h := iteF hb72 h
                refine ACode_skip ?_
                cases h
                exact ⟨_, rfl, Weak_keep 0 hm [0, 1, 2, 7, 8, 11] [0] _ _ rfl rfl rfl⟩
            rintro E' H' ⟨s73, rfl, hw⟩
            refine ACode_weak hw ?_
            have h := hks73
            refine ACode_seq (ACode_region ?_)
            refine AOps_q 14 _ rfl rfl rfl (QOp_assign _ _ rfl rfl) ?_
            refine AOps_nil ?_
            refine ACode_seq (ACode_region ?_)
            refine AOps_q 82 _ rfl rfl rfl (QOp_move _ _ rfl rfl) ?_
            refine AOps_q 83 _ rfl rfl rfl (QOp_move _ _ rfl rfl) ?_
            obtain ⟨r74, hr74, h⟩ := bindO h
            refine AOps_call [0] 84 _ _ _ _ _ _ _ _ _ _ rfl rfl rfl rfl rfl rfl rfl Try.call16 rfl (nodupB_sound _ rfl) rfl rfl rfl (laws_markInt64S_ac k l9 1 _ hr74) ?_
            rintro _ _ ⟨rfl, rfl⟩
            refine ⟨(allc (fun _ _ => trivial) (fun _ h => nomatch h)), (allc (trivial) (fun _ h => nomatch h)), AOps_as 84 (v' := iV r74.1) (H' := [.vec 0 (intsD r74.2)]) rfl rfl ?_⟩
            refine AOps_q 14 _ rfl rfl rfl (QOp_assign _ _ rfl rfl) ?_
            refine AOps_nil ?_
            refine ACode_seq (ACode_region ?_)
            refine AOps_q 15 _ rfl rfl rfl (QOp_assign _ _ rfl rfl) ?_
            refine AOps_nil ?_
            refine ACode_seq (ACode_region ?_)
            refine AOps_q 85 _ rfl rfl rfl (QOp_move _ _ rfl rfl) ?_
            refine AOps_q 86 _ rfl rfl rfl (QOp_move _ _ rfl rfl) ?_
            obtain ⟨r75, hr75, h⟩ := bindO h
            refine AOps_callL [] 87 _ _ _ _ _ _ _ _ _ _ rfl rfl rfl rfl rfl rfl rfl Try.call23 rfl (nodupB_sound _ rfl) rfl rfl rfl (laws_heldInt64S_ac k r74.2 1 _ hr75) ?_
            rintro _ _ ⟨rfl, rfl⟩
            refine ⟨(fun _ h => nomatch h), (allc (flat_s _) (fun _ h => nomatch h)), AOps_as 87 (v' := iV r75) (H' := [.vec 0 (intsD r74.2)]) rfl rfl ?_⟩
            refine AOps_q 15 _ rfl rfl rfl (QOp_assign _ _ rfl rfl) ?_
            refine AOps_nil ?_
            refine ACode_seq ?_
            refine ACode_seq (ACode_region ?_)
            refine AOps_q 88 _ rfl rfl rfl (QOp_move _ _ rfl rfl) ?_
            refine AOps_q 89 _ rfl rfl rfl (QOp_lss _ _ _ _ _ _ _ rfl rfl rfl) ?_
            refine AOps_nil ?_
            refine ACode_cond _ rfl (fun hb76 => ?_) (fun hb76 => ?_)
            · have h := iteT hb76 h
              refine ACode_seq (ACode_region ?_)
              refine AOps_q 6 _ rfl rfl rfl (QOp_assign _ _ rfl rfl) ?_
              refine AOps_nil ?_
              refine ACode_ret ?_
              cases h
              exact ⟨_, _, fun r a w h => ⟨r, h⟩, _, _, [], _, (.cons (ResV_tmp _ _ rfl) .nil), rfl, rfl, rfl, rfl, rfl⟩
            · have h := iteF hb76 h
              refine ACode_skip ?_
              refine ACode_seq ?_
              refine ACode_seq (ACode_region ?_)
              refine AOps_q 90 _ rfl rfl rfl (QOp_move _ _ rfl rfl) ?_
              refine AOps_q 91 _ rfl rfl rfl (QOp_move _ _ rfl rfl) ?_
              refine AOps_q 92 _ rfl rfl rfl (QOp_neq _ _ _ _ _ _ _ rfl rfl rfl) ?_
              refine AOps_nil ?_
              refine ACode_cond _ rfl (fun hb77 => ?_) (fun hb77 => ?_)
              · have h := iteT hb77 h
                refine ACode_seq (ACode_region ?_)
                refine AOps_q 6 _ rfl rfl rfl (QOp_assign _ _ rfl rfl) ?_
                refine AOps_nil ?_
                refine ACode_ret ?_
                cases h
                exact ⟨_, _, fun r a w h => ⟨r, h⟩, _, _, [], _, (.cons (ResV_tmp _ _ rfl) .nil), rfl, rfl, rfl, rfl, rfl⟩
              · have h := iteF hb77 h
                refine ACode_skip ?_
                refine ACode_seq (ACode_region ?_)
                refine AOps_q 94 _ rfl rfl rfl (QOp_move _ _ rfl rfl) ?_
                refine AOps_q 95 _ rfl rfl rfl (QOp_move _ _ rfl rfl) ?_
                obtain ⟨r78, hr78, h⟩ := bindO h
                refine AOps_call [] 96 _ _ _ _ _ _ _ _ _ _ rfl rfl rfl rfl rfl rfl rfl Try.call12 rfl (nodupB_sound _ rfl) rfl rfl rfl (laws_toInt64S_ac k p1 _ hr78) ?_
                rintro _ _ ⟨rfl, rfl⟩
                refine ⟨(allc (fun _ _ => trivial) (fun _ h => nomatch h)), (allc (trivial) (fun _ h => nomatch h)), AOps_as 96 (v' := .vec 1 0) (H' := [.vec 0 (intsD r74.2), .vec 0 (intsD r78)]) rfl rfl ?_⟩
                refine AOps_q 97 _ rfl rfl rfl (QOp_move _ _ rfl rfl) ?_
                obtain ⟨r79, hr79, h⟩ := bindO h
                refine AOps_call [] 98 _ _ _ _ _ _ _ _ _ _ rfl rfl rfl rfl rfl rfl rfl Try.call12 rfl (nodupB_sound _ rfl) rfl rfl rfl (laws_toInt64S_ac k p2 _ hr79) ?_
                rintro _ _ ⟨rfl, rfl⟩
                refine ⟨(allc (fun _ _ => trivial) (fun _ h => nomatch h)), (allc (trivial) (fun _ h => nomatch h)), AOps_as 98 (v' := .vec 2 0) (H' := [.vec 0 (intsD r74.2), .vec 0 (intsD r78), .vec 0 (intsD r79)]) rfl rfl ?_⟩
                obtain ⟨r80, hr80, h⟩ := bindO h
                refine AOps_callL [] 99 _ _ _ _ _ _ _ _ _ _ rfl rfl rfl rfl rfl rfl rfl Try.call22 rfl (nodupB_sound _ rfl) rfl rfl rfl (impl_RenumberPosition_ac k p0 r78 r79 _ hr80) ?_
                revert h
                cases hx82 : r80.1 with
                | none =>
                  intro h
                  rintro _ _ ⟨rfl, rfl⟩
                  refine ⟨(fun _ h => nomatch h), (allc (flat_nil) (allc (flat_s _) (fun _ h => nomatch h))), AOps_as 99 (v' := .tup [.d (.sl (some true) []), iV r80.2]) (H' := [.vec 0 (intsD r74.2), .vec 0 (intsD r78), .vec 0 (intsD r79)]) rfl rfl ?_⟩
                  refine AOps_q 93 _ rfl rfl rfl (QOp_move _ _ rfl rfl) ?_
                  refine AOps_q 100 _ rfl rfl rfl (QOp_extract _ _ _ _ rfl rfl rfl) ?_
                  refine AOps_q 101 _ rfl rfl rfl (QOp_extract _ _ _ _ rfl rfl rfl) ?_
                  refine AOps_q 16 _ rfl rfl rfl (QOp_assign _ _ rfl rfl) ?_
                  refine AOps_q 17 _ rfl rfl rfl (QOp_assign _ _ rfl rfl) ?_
                  refine AOps_nil ?_
                  obtain ⟨os87, hss87, hks87⟩ := bindO h
                  clear h
                  refine ACode_seqJ (fun E' H' => ∃ s87 : Unit, os87 = .inl s87 ∧ Weak 119 G E' H' [(11, .vec 0 0), (14, iV r74.1)] [.vec 0 (intsD r74.2)]) ?_ ?_
                  · have h := hss87
                    clear hss87
                    obtain ⟨s85, hss85, hks85⟩ := bindO h
                    clear h
                    refine ACode_seqJ (fun E' H' => Weak 119 G E' H' [(11, .vec 0 0), (14, iV r74.1), (110, bV s85)] [.vec 0 (intsD r74.2)]) ?_ ?_
                    · have h := hss85
                      clear hss85
                      refine (ACode_region ?_)
                      refine AOps_q 102 _ rfl rfl rfl (QOp_move _ _ rfl rfl) ?_
                      refine AOps_q 103 _ rfl rfl rfl (QOp_move _ _ rfl rfl) ?_
                      obtain ⟨r83, hr83, h⟩ := bindO h
                      refine AOps_call [] 104 _ _ _ _ _ _ _ _ _ _ rfl rfl rfl rfl rfl rfl rfl Try.call15 rfl (nodupB_sound _ rfl) rfl rfl rfl (laws_eqInt64S_ac k ([]) r5.1 _ hr83) ?_
                      rintro _ _ ⟨rfl, rfl⟩
                      refine ⟨(fun _ h => nomatch h), (allc (trivial) (fun _ h => nomatch h)), AOps_as 104 (v' := bV r83) (H' := [.vec 0 (intsD r74.2), .vec 0 (intsD r78), .vec 0 (intsD r79)]) rfl rfl ?_⟩
                      refine AOps_q 105 _ rfl rfl rfl (QOp_not _ _ _ rfl rfl) ?_
                      refine AOps_q 106 _ rfl rfl rfl (QOp_move _ _ rfl rfl) ?_
                      refine AOps_case 106 _ rfl (fun hb84 => ?_) (fun hb84 => ?_)
                      · have h := iteT hb84 h
                        refine AOps_skip 107 rfl rfl rfl ?_
                        refine AOps_skip 108 rfl rfl rfl ?_
                        refine AOps_skip 109 rfl rfl rfl ?_
                        refine AOps_q 110 _ rfl rfl rfl (QOp_pick_t _ _ _ _ rfl rfl rfl) ?_
                        refine AOps_nil ?_
                        cases h
                        exact Weak_keep 0 hm [11, 14, 110] [0] _ _ rfl rfl rfl
                      · have h := iteF hb84 h
                        refine AOps_q 107 _ rfl rfl rfl (QOp_move _ _ rfl rfl) ?_
                        refine AOps_q 108 _ rfl rfl rfl (QOp_move _ _ rfl rfl) ?_
                        refine AOps_q 109 _ rfl rfl rfl (QOp_neq _ _ _ _ _ _ _ rfl rfl rfl) ?_
                        refine AOps_q 110 _ rfl rfl rfl (QOp_pick_f _ _ _ _ rfl rfl rfl) ?_
                        refine AOps_nil ?_
                        cases h
                        exact Weak_keep 0 hm [11, 14, 110] [0] _ _ rfl rfl rfl
                    intro E' H' hw
                    refine ACode_weak hw ?_
                    have h := hks85
                    refine ACode_cond _ rfl (fun hb86 => ?_) (fun hb86 => ?_)
                    · have h := iteT hb86 h
                      refine ACode_seq (ACode_region ?_)
                      refine AOps_q 6 _ rfl rfl rfl (QOp_assign _ _ rfl rfl) ?_
                      refine AOps_nil ?_
                      refine ACode_ret ?_
                      cases h
                      have h := hks87
                      cases h
                      exact ⟨_, _, fun r a w h => ⟨r, h⟩, _, _, [], _, (.cons (ResV_tmp _ _ rfl) .nil), rfl, rfl, rfl, rfl, rfl⟩
                    · have h := iteF hb86 h
                      refine ACode_skip ?_
                      cases h
                      exact ⟨_, rfl, Weak_keep 0 hm [11, 14] [0] _ _ rfl rfl rfl⟩
                  rintro E' H' ⟨s87, rfl, hw⟩
                  refine ACode_weak hw ?_
                  have h := hks87
                  refine ACode_seq (ACode_region ?_)
                  refine AOps_q 15 _ rfl rfl rfl (QOp_assign _ _ rfl rfl) ?_
                  refine AOps_nil ?_
                  refine ACode_seq (ACode_region ?_)
                  refine AOps_q 111 _ rfl rfl rfl (QOp_move _ _ rfl rfl) ?_
                  refine AOps_q 112 _ rfl rfl rfl (QOp_move _ _ rfl rfl) ?_
                  obtain ⟨r88, hr88, h⟩ := bindO h
                  refine AOps_callL [] 113 _ _ _ _ _ _ _ _ _ _ rfl rfl rfl rfl rfl rfl rfl Try.call23 rfl (nodupB_sound _ rfl) rfl rfl rfl (laws_heldInt64S_ac k r74.2 1 _ hr88) ?_
                  rintro _ _ ⟨rfl, rfl⟩
                  refine ⟨(fun _ h => nomatch h), (allc (flat_s _) (fun _ h => nomatch h)), AOps_as 113 (v' := iV r88) (H' := [.vec 0 (intsD r74.2)]) rfl rfl ?_⟩
                  refine AOps_q 15 _ rfl rfl rfl (QOp_assign _ _ rfl rfl) ?_
                  refine AOps_nil ?_
                  refine ACode_seq ?_
                  refine ACode_seq (ACode_region ?_)
                  refine AOps_q 114 _ rfl rfl rfl (QOp_move _ _ rfl rfl) ?_
                  refine AOps_q 115 _ rfl rfl rfl (QOp_lss _ _ _ _ _ _ _ rfl rfl rfl) ?_
                  refine AOps_nil ?_
                  refine ACode_cond _ rfl (fun hb89 => ?_) (fun hb89 => ?_)
                  · have h := iteT hb89 h
                    refine ACode_seq (ACode_region ?_)
                    refine AOps_q 6 _ rfl rfl rfl (QOp_assign _ _ rfl rfl) ?_
                    refine AOps_nil ?_
                    refine ACode_ret ?_
                    cases h
                    exact ⟨_, _, fun r a w h => ⟨r, h⟩, _, _, [], _, (.cons (ResV_tmp _ _ rfl) .nil), rfl, rfl, rfl, rfl, rfl⟩
                  · have h := iteF hb89 h
                    refine ACode_skip ?_
                    refine ACode_seq ?_
                    refine ACode_seq (ACode_region ?_)
                    refine AOps_q 116 _ rfl rfl rfl (QOp_move _ _ rfl rfl) ?_
                    refine AOps_q 117 _ rfl rfl rfl (QOp_move _ _ rfl rfl) ?_
                    refine AOps_q 118 _ rfl rfl rfl (QOp_neq _ _ _ _ _ _ _ rfl rfl rfl) ?_
                    refine AOps_nil ?_
                    refine ACode_cond _ rfl (fun hb90 => ?_) (fun hb90 => ?_)
                    · have h := iteT hb90 h
                      refine ACode_seq (ACode_region ?_)
                      refine AOps_q 6 _ rfl rfl rfl (QOp_assign _ _ rfl rfl) ?_
                      refine AOps_nil ?_
                      refine ACode_ret ?_
                      cases h
                      exact ⟨_, _, fun r a w h => ⟨r, h⟩, _, _, [], _, (.cons (ResV_tmp _ _ rfl) .nil), rfl, rfl, rfl, rfl, rfl⟩
                    · have h := iteF hb90 h
                      refine ACode_skip ?_
                      refine ACode_seq (ACode_region ?_)
                      refine AOps_q 6 _ rfl rfl rfl (QOp_assign _ _ rfl rfl) ?_
                      refine AOps_nil ?_
                      refine ACode_ret ?_
                      cases h
                      exact ⟨_, _, fun r a w h => ⟨r, h⟩, _, _, [], _, (.cons (ResV_tmp _ _ rfl) .nil), rfl, rfl, rfl, rfl, rfl⟩
                | some l81 =>
                  intro h
                  rintro _ _ ⟨rfl, rfl⟩
                  refine ⟨(allc (intsD_flat _) (fun _ h => nomatch h)), (allc (trivial) (allc (flat_s _) (fun _ h => nomatch h))), AOps_as 99 (v' := .tup [.vec 3 0, iV r80.2]) (H' := [.vec 0 (intsD r74.2), .vec 0 (intsD r78), .vec 0 (intsD r79), .vec 0 (intsD l81)]) rfl rfl ?_⟩
                  refine AOps_q 93 _ rfl rfl rfl (QOp_move _ _ rfl rfl) ?_
                  refine AOps_q 100 _ rfl rfl rfl (QOp_extract _ _ _ _ rfl rfl rfl) ?_
                  refine AOps_q 101 _ rfl rfl rfl (QOp_extract _ _ _ _ rfl rfl rfl) ?_
                  refine AOps_q 16 _ rfl rfl rfl (QOp_assign _ _ rfl rfl) ?_
                  refine AOps_q 17 _ rfl rfl rfl (QOp_assign _ _ rfl rfl) ?_
                  refine AOps_nil ?_
                  obtain ⟨os95, hss95, hks95⟩ := bindO h
                  clear h
                  refine ACode_seqJ (fun E' H' => ∃ s95 : Unit, os95 = .inl s95 ∧ Weak 119 G E' H' [(11, .vec 0 0), (14, iV r74.1)] [.vec 0 (intsD r74.2)]) ?_ ?_
                  · have h := hss95
                    clear hss95
                    obtain ⟨s93, hss93, hks93⟩ := bindO h
                    clear h
                    refine ACode_seqJ (fun E' H' => Weak 119 G E' H' [(11, .vec 0 0), (14, iV r74.1), (110, bV s93)] [.vec 0 (intsD r74.2)]) ?_ ?_
                    · have h := hss93
                      clear hss93
                      refine (ACode_region ?_)
                      refine AOps_q 102 _ rfl rfl rfl (QOp_move _ _ rfl rfl) ?_
                      refine AOps_q 103 _ rfl rfl rfl (QOp_move _ _ rfl rfl) ?_
                      obtain ⟨r91, hr91, h⟩ := bindO h
                      refine AOps_callL [] 104 _ _ _ _ _ _ _ _ _ _ rfl rfl rfl rfl rfl rfl rfl Try.call15 rfl (nodupB_sound _ rfl) rfl rfl rfl (laws_eqInt64S_ac k l81 r5.1 _ hr91) ?_
                      rintro _ _ ⟨rfl, rfl⟩
                      refine ⟨(fun _ h => nomatch h), (allc (flat_s _) (fun _ h => nomatch h)), AOps_as 104 (v' := bV r91) (H' := [.vec 0 (intsD r74.2), .vec 0 (intsD r78), .vec 0 (intsD r79), .vec 0 (intsD l81)]) rfl rfl ?_⟩
                      refine AOps_q 105 _ rfl rfl rfl (QOp_not _ _ _ rfl rfl) ?_
                      refine AOps_q 106 _ rfl rfl rfl (QOp_move _ _ rfl rfl) ?_
                      refine AOps_case 106 _ rfl (fun hb92 => ?_) (fun hb92 => ?_)
                      · have h := iteT hb92 h
                        refine AOps_skip 107 rfl rfl rfl ?_
                        refine AOps_skip 108 rfl rfl rfl ?_
                        refine AOps_skip 109 rfl rfl rfl ?_
                        refine AOps_q 110 _ rfl rfl rfl (QOp_pick_t _ _ _ _ rfl rfl rfl) ?_
                        refine AOps_nil ?_
                        cases h
                        exact Weak_keep 0 hm [11, 14, 110] [0] _ _ rfl rfl rfl
                      · have h := iteF hb92 h
                        refine AOps_q 107 _ rfl rfl rfl (QOp_move _ _ rfl rfl) ?_
                        refine AOps_q 108 _ rfl rfl rfl (QOp_move _ _ rfl rfl) ?_
                        refine AOps_q 109 _ rfl rfl rfl (QOp_neq _ _ _ _ _ _ _ rfl rfl rfl) ?_
                        refine AOps_q 110 _ rfl rfl rfl (QOp_pick_f _ _ _ _ rfl rfl rfl) ?_
                        refine AOps_nil ?_
                        cases h
                        exact Weak_keep 0 hm [11, 14, 110] [0] _ _ rfl rfl rfl
                    intro E' H' hw
                    refine ACode_weak hw ?_
                    have h := hks93
                    refine ACode_cond _ rfl (fun hb94 => ?_) (fun hb94 => ?_)
                    · have h := iteT hb94 h
                      refine ACode_seq (ACode_region ?_)
                      refine AOps_q 6 _ rfl rfl rfl (QOp_assign _ _ rfl rfl) ?_
                      refine AOps_nil ?_
                      refine ACode_ret ?_
                      cases h
                      have h := hks95
                      cases h
                      exact ⟨_, _, fun r a w h => ⟨r, h⟩, _, _, [], _, (.cons (ResV_tmp _ _ rfl) .nil), rfl, rfl, rfl, rfl, rfl⟩
                    · have h := iteF hb94 h
                      refine ACode_skip ?_
                      cases h
                      exact ⟨_, rfl, Weak_keep 0 hm [11, 14] [0] _ _ rfl rfl rfl⟩
                  rintro E' H' ⟨s95, rfl, hw⟩
                  refine ACode_weak hw ?_
                  have h := hks95
                  refine ACode_seq (ACode_region ?_)
                  refine AOps_q 15 _ rfl rfl rfl (QOp_assign _ _ rfl rfl) ?_
                  refine AOps_nil ?_
                  refine ACode_seq (ACode_region ?_)
                  refine AOps_q 111 _ rfl rfl rfl (QOp_move _ _ rfl rfl) ?_
                  refine AOps_q 112 _ rfl rfl rfl (QOp_move _ _ rfl rfl) ?_
                  obtain ⟨r96, hr96, h⟩ := bindO h
                  refine AOps_callL [] 113 _ _ _ _ _ _ _ _ _ _ rfl rfl rfl rfl rfl rfl rfl Try.call23 rfl (nodupB_sound _ rfl) rfl rfl rfl (laws_heldInt64S_ac k r74.2 1 _ hr96) ?_
                  rintro _ _ ⟨rfl, rfl⟩
                  refine ⟨(fun _ h => nomatch h), (allc (flat_s _) (fun _ h => nomatch h)), AOps_as 113 (v' := iV r96) (H' := [.vec 0 (intsD r74.2)]) rfl rfl ?_⟩
                  refine AOps_q 15 _ rfl rfl rfl (QOp_assign _ _ rfl rfl) ?_
                  refine AOps_nil ?_
                  refine ACode_seq ?_
                  refine ACode_seq (ACode_region ?_)
                  refine AOps_q 114 _ rfl rfl rfl (QOp_move _ _ rfl rfl) ?_
                  refine AOps_q 115 _ rfl rfl rfl (QOp_lss _ _ _ _ _ _ _ rfl rfl rfl) ?_
                  refine AOps_nil ?_
                  refine ACode_cond _ rfl (fun hb97 => ?_) (fun hb97 => ?_)
                  · have h := iteT hb97 h
                    refine ACode_seq (ACode_region ?_)
                    refine AOps_q 6 _ rfl rfl rfl (QOp_assign _ _ rfl rfl) ?_
                    refine AOps_nil ?_
                    refine ACode_ret ?_
                    cases h
                    exact ⟨_, _, fun r a w h => ⟨r, h⟩, _, _, [], _, (.cons (ResV_tmp _ _ rfl) .nil), rfl, rfl, rfl, rfl, rfl⟩
                  · have h := iteF hb97 h
                    refine ACode_skip ?_
                    refine ACode_seq ?_
                    refine ACode_seq (ACode_region ?_)
                    refine AOps_q 116 _ rfl rfl rfl (QOp_move _ _ rfl rfl) ?_
                    refine AOps_q 117 _ rfl rfl rfl (QOp_move _ _ rfl rfl) ?_
                    refine AOps_q 118 _ rfl rfl rfl (QOp_neq _ _ _ _ _ _ _ rfl rfl rfl) ?_
                    refine AOps_nil ?_
                    refine ACode_cond _ rfl (fun hb98 => ?_) (fun hb98 => ?_)
                    · have h := iteT hb98 h
                      refine ACode_seq (ACode_region ?_)
                      refine AOps_q 6 _ rfl rfl rfl (QOp_assign _ _ rfl rfl) ?_
                      refine AOps_nil ?_
                      refine ACode_ret ?_
                      cases h
                      exact ⟨_, _, fun r a w h => ⟨r, h⟩, _, _, [], _, (.cons (ResV_tmp _ _ rfl) .nil), rfl, rfl, rfl, rfl, rfl⟩
                    · have h := iteF hb98 h
                      refine ACode_skip ?_
                      refine ACode_seq (ACode_region ?_)
                      refine AOps_q 6 _ rfl rfl rfl (QOp_assign _ _ rfl rfl) ?_
                      refine AOps_nil ?_
                      refine ACode_ret ?_
                      cases h
                      exact ⟨_, _, fun r a w h => ⟨r, h⟩, _, _, [], _, (.cons (ResV_tmp _ _ rfl) .nil), rfl, rfl, rfl, rfl, rfl⟩

end Go.Proofs.Ytfgfaffcfbhocaa
