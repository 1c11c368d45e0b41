/- Plain functions of the program and that the program computes them: printed by the own tool gen.py. No conditions. -/
import Derived.Test.YtmmiokljmfkoiaaGen14a
set_option linter.unusedVariables false
set_option linter.unusedSimpArgs false
namespace Go.Proofs.Ytmmiokljmfkoiaa
open Go Go.RowKit Ab

-- loop.example/g01362/laws.markInt64S
def laws_markInt64S_d0_l0 (p0 : List Int) : Nat → Int → Int → Option (Int)
  | 0, _, _ => none
  | k0 + 1, x1, x2 => (if decide (x2 < (p0.length : Int)) then (if 0 ≤ x2 ∧ x2 < (p0.length : Int) then none else none) else some x1)
def laws_markInt64S_d0 (k : Nat) (p0 : List Int) (p1 : Int) : Option (Int) :=
  (laws_markInt64S_d0_l0 p0 k p1 0 : Option (Int)).bind fun s5 => some s5
set_option maxRecDepth 100000 in
theorem laws_markInt64S_d0_ac (k : Nat) (p0 : List Int) (p1 : Int) (r : Int) (h : laws_markInt64S_d0 k p0 p1 = some r) : AC Try.prog 23 [.d (.sl none (intsD p0)), iV p1] [] (fun res H' => res = [iV r] ∧ H' = []) := by
  refine AC_of_body true Try.func23 rfl Try.ntmps23 (rvs := [.tmp 4]) rfl rfl (fun G hG => ?_)
  have hm : G.H.length = 0 := by rw [hG]; rfl
  have hz : zeroG G.H = true := by rw [hG]; rfl
  unfold laws_markInt64S_d0 at h
  refine ACode_seq (ACode_region ?_)
  refine AOps_q 4 _ rfl rfl rfl (QOp_assign _ _ rfl rfl) ?_
  refine AOps_nil ?_
  obtain ⟨s5, hss5, hks5⟩ := bindO h
  clear h
  refine ACode_seqJ (fun E' H' => Weak 19 G E' H' [(1, iV s5)] []) ?_ ?_
  · have h := hss5
    clear hss5
    refine ACode_seq (ACode_region ?_)
    refine AOps_q 5 _ rfl rfl rfl (QOp_assign _ _ rfl rfl) ?_
    refine AOps_nil ?_
    refine ACode_block ?_
    refine ACode_loopW (fun k0 E H => ∃ (x1 : Int) (x2 : Int), E = [(0, .d (.sl none (intsD p0))), (1, iV x1), (5, iV x2)] ∧ H = [] ∧ laws_markInt64S_d0_l0 p0 k0 x1 x2 = some s5) k _ _ (Weak_keep 0 hm [0, 1, 5] [] _ _ rfl rfl rfl) ⟨_, _, rfl, rfl, h⟩ ?_
    clear h
    rintro k0 E H ⟨x1, x2, rfl, rfl, h⟩
    cases k0 with
    | zero => cases (show (none : Option (Int)) = some _ from h)
    | succ k0 =>
      rw [laws_markInt64S_d0_l0] at h
      refine ACode_seq ?_
      refine ACode_seq (ACode_region ?_)
      refine AOps_q 6 _ rfl rfl rfl (QOp_move _ _ rfl rfl) ?_
      refine AOps_q 7 _ rfl rfl rfl (QOp_move _ _ rfl rfl) ?_
      refine AOps_q 8 _ rfl rfl rfl (QOp_len_sl _ _ _ _ _ _ _ (intsD_length _) rfl rfl rfl rfl Try.underlying40 rfl) ?_
      refine AOps_q 9 _ rfl rfl rfl (QOp_lss _ _ _ _ _ _ _ rfl rfl rfl) ?_
      refine AOps_nil ?_
      refine ACode_cond _ rfl (fun hb3 => ?_) (fun hb3 => ?_)
      · have h := iteT hb3 h
        refine ACode_skip ?_
        refine ACode_seq ?_
        refine ACode_block ?_
        refine ACode_seq (ACode_region ?_)
        refine AOps_q 12 _ rfl rfl rfl (QOp_move _ _ rfl rfl) ?_
        refine AOps_q 13 _ rfl rfl rfl (QOp_move _ _ rfl rfl) ?_
        refine AOps_q 14 _ rfl rfl rfl (QOp_move _ _ rfl rfl) ?_
        obtain ⟨hc4, h⟩ := guardO h
        refine AOps_q 15 _ rfl rfl rfl (QOp_indexAddr_sl _ _ _ _ _ _ _ _ rfl Try.underlying40 Try.sizeOf2 hc4.1 (by rw [intsD_length]; exact hc4.2) rfl rfl) ?_
        cases h
      · have h := iteF hb3 h
        refine ACode_exit ?_
        cases h
        exact Weak_keep 0 hm [1] [] _ _ rfl rfl rfl
  intro E' H' hw
  refine ACode_weak hw ?_
  have h := hks5
  refine ACode_seq (ACode_region ?_)
  refine AOps_q 18 _ rfl rfl rfl (QOp_move _ _ rfl rfl) ?_
  refine AOps_q 4 _ rfl rfl rfl (QOp_assign _ _ rfl rfl) ?_
  refine AOps_nil ?_
  refine ACode_ret ?_
  cases h
  exact ⟨_, _, fun r a w h => ⟨r, h⟩, _, _, [], _, (.cons (ResV_tmp _ _ rfl) .nil), rfl, rfl, rfl, rfl, rfl⟩

-- loop.example/g01362/laws.markInt64SS
def laws_markInt64SS_l0 (k : Nat) (p0 : List (List Int)) : Nat → Int → Int → Option (Int)
  | 0, _, _ => none
  | k0 + 1, x1, x2 => (if decide (x2 < (p0.length : Int)) then (if 0 ≤ x2 ∧ x2 < (p0.length : Int) then (laws_markInt64S_d0 k (p0.getD x2.toNat []) x1).bind fun r5 => laws_markInt64SS_l0 k p0 k0 r5 (w64 (x2 + 1)) else none) else some x1)
def laws_markInt64SS (k : Nat) (p0 : List (List Int)) (p1 : Int) : Option (Int) :=
  (laws_markInt64SS_l0 k p0 k p1 0 : Option (Int)).bind fun s6 => some s6
set_option maxRecDepth 100000 in
theorem laws_markInt64SS_ac (k : Nat) (p0 : List (List Int)) (p1 : Int) (r : Int) (h : laws_markInt64SS k p0 p1 = some r) : AC Try.prog 11 [.d (.sl none (rowsD p0)), iV p1] [] (fun res H' => res = [iV r] ∧ H' = []) := by
  refine AC_of_body true Try.func11 rfl Try.ntmps11 (rvs := [.tmp 4]) rfl rfl (fun G hG => ?_)
  have hm : G.H.length = 0 := by rw [hG]; rfl
  have hz : zeroG G.H = true := by rw [hG]; rfl
  unfold laws_markInt64SS at h
  refine ACode_seq (ACode_region ?_)
  refine AOps_q 4 _ rfl rfl rfl (QOp_assign _ _ rfl rfl) ?_
  refine AOps_nil ?_
  obtain ⟨s6, hss6, hks6⟩ := bindO h
  clear h
  refine ACode_seqJ (fun E' H' => Weak 19 G E' H' [(1, iV s6)] []) ?_ ?_
  · have h := hss6
    clear hss6
    refine ACode_seq (ACode_region ?_)
    refine AOps_q 5 _ rfl rfl rfl (QOp_assign _ _ rfl rfl) ?_
    refine AOps_nil ?_
    refine ACode_block ?_
    refine ACode_loopW (fun k0 E H => ∃ (x1 : Int) (x2 : Int), E = [(0, .d (.sl none (rowsD p0))), (1, iV x1), (5, iV x2)] ∧ H = [] ∧ laws_markInt64SS_l0 k p0 k0 x1 x2 = some s6) k _ _ (Weak_keep 0 hm [0, 1, 5] [] _ _ rfl rfl rfl) ⟨_, _, rfl, rfl, h⟩ ?_
    clear h
    rintro k0 E H ⟨x1, x2, rfl, rfl, h⟩
    cases k0 with
    | zero => cases (show (none : Option (Int)) = some _ from h)
    | succ k0 =>
      rw [laws_markInt64SS_l0] at h
      refine ACode_seq ?_
      refine ACode_seq (ACode_region ?_)
      refine AOps_q 6 _ rfl rfl rfl (QOp_move _ _ rfl rfl) ?_
      refine AOps_q 7 _ rfl rfl rfl (QOp_move _ _ rfl rfl) ?_
      refine AOps_q 8 _ rfl rfl rfl (QOp_len_sl _ _ _ _ _ _ _ (rowsD_length _) rfl rfl rfl rfl Try.underlying25 rfl) ?_
      refine AOps_q 9 _ rfl rfl rfl (QOp_lss _ _ _ _ _ _ _ rfl rfl rfl) ?_
      refine AOps_nil ?_
      refine ACode_cond _ rfl (fun hb3 => ?_) (fun hb3 => ?_)
      · have h := iteT hb3 h
        refine ACode_skip ?_
        refine ACode_seq ?_
        refine ACode_block ?_
        refine (ACode_region ?_)
        refine AOps_q 12 _ rfl rfl rfl (QOp_move _ _ rfl rfl) ?_
        refine AOps_q 13 _ rfl rfl rfl (QOp_move _ _ rfl rfl) ?_
        obtain ⟨hc4, h⟩ := guardO h
        refine AOps_q 14 _ rfl rfl rfl (QOp_indexAddr_sl _ _ _ _ _ _ _ _ rfl Try.underlying25 Try.sizeOf40 hc4.1 (by rw [rowsD_length]; exact hc4.2) rfl rfl) ?_
        refine AOps_q 15 _ rfl rfl rfl (QOp_load_pv _ _ _ _ _ rfl Try.isAgg40 rfl (rowsD_get _ _ [] (by omega))) ?_
        refine AOps_q 16 _ rfl rfl rfl (QOp_move _ _ rfl rfl) ?_
        obtain ⟨r5, hr5, h⟩ := bindO h
        refine AOps_call [] 17 _ _ _ _ _ _ _ _ _ _ rfl rfl rfl rfl rfl rfl rfl Try.call23 rfl (nodupB_sound _ rfl) rfl rfl rfl (laws_markInt64S_d0_ac k (p0.getD x2.toNat []) x1 _ hr5) ?_
        rintro _ _ ⟨rfl, rfl⟩
        refine ⟨(fun _ h => nomatch h), (allc (trivial) (fun _ h => nomatch h)), AOps_as 17 (v' := iV r5) (H' := []) rfl rfl ?_⟩
        refine AOps_q 1 _ rfl rfl rfl (QOp_assign _ _ rfl rfl) ?_
        refine AOps_nil ?_
        refine (ACode_region ?_)
        refine AOps_q 10 _ rfl rfl rfl (QOp_move _ _ rfl rfl) ?_
        refine AOps_q 11 _ rfl rfl rfl (QOp_add _ _ _ _ _ _ _ rfl rfl rfl) ?_
        refine AOps_q 5 _ rfl rfl rfl (QOp_assign _ _ rfl rfl) ?_
        refine AOps_nil ?_
        exact ⟨k0, _, _, Nat.lt_succ_self _, Weak_keep 0 hm [0, 1, 5] [] _ _ rfl rfl rfl, _, _, rfl, rfl, h⟩
      · have h := iteF hb3 h
        refine ACode_exit ?_
        cases h
        exact Weak_keep 0 hm [1] [] _ _ rfl rfl rfl
  intro E' H' hw
  refine ACode_weak hw ?_
  have h := hks6
  refine ACode_seq (ACode_region ?_)
  refine AOps_q 18 _ rfl rfl rfl (QOp_move _ _ rfl rfl) ?_
  refine AOps_q 4 _ rfl rfl rfl (QOp_assign _ _ rfl rfl) ?_
  refine AOps_nil ?_
  refine ACode_ret ?_
  cases h
  exact ⟨_, _, fun r a w h => ⟨r, h⟩, _, _, [], _, (.cons (ResV_tmp _ _ rfl) .nil), rfl, rfl, rfl, rfl, rfl⟩

-- loop.example/g01362/laws.heldInt64S
def laws_heldInt64S_l0 (p0 : List Int) : Nat → Int → Int → Option (Sum (Int) (Int))
  | 0, _, _ => none
  | k0 + 1, x1, x2 => (if decide (x2 < (p0.length : Int)) then (if 0 ≤ x2 ∧ x2 < (p0.length : Int) then (if !decide ((p0.getD x2.toNat 0) = x1) then some (.inr (-1)) else laws_heldInt64S_l0 p0 k0 (w64 (x1 + 1)) (w64 (x2 + 1))) else none) else some (.inl x1))
def laws_heldInt64S (k : Nat) (p0 : List Int) (p1 : Int) : Option (Int) :=
  (laws_heldInt64S_l0 p0 k p1 0 : Option (Sum (Int) (Int))).bind fun os6 => (match os6 with | .inl s6 => some s6 | .inr rr => some rr)
set_option maxRecDepth 100000 in
theorem laws_heldInt64S_ac (k : Nat) (p0 : List Int) (p1 : Int) (r : Int) (h : laws_heldInt64S k p0 p1 = some r) : AC Try.prog 31 [.d (.sl none (intsD p0)), iV p1] [] (fun res H' => res = [iV r] ∧ H' = []) := by
  refine AC_of_body true Try.func31 rfl Try.ntmps31 (rvs := [.tmp 4]) rfl rfl (fun G hG => ?_)
  have hm : G.H.length = 0 := by rw [hG]; rfl
  have hz : zeroG G.H = true := by rw [hG]; rfl
  unfold laws_heldInt64S at h
  refine ACode_seq (ACode_region ?_)
  refine AOps_q 4 _ rfl rfl rfl (QOp_assign _ _ rfl rfl) ?_
  refine AOps_nil ?_
  obtain ⟨os6, hss6, hks6⟩ := bindO h
  clear h
  refine ACode_seqJ (fun E' H' => ∃ s6 : Int, os6 = .inl s6 ∧ Weak 21 G E' H' [(1, iV s6)] []) ?_ ?_
  · have h := hss6
    clear hss6
    refine ACode_seq (ACode_region ?_)
    refine AOps_q 5 _ rfl rfl rfl (QOp_assign _ _ rfl rfl) ?_
    refine AOps_nil ?_
    refine ACode_block ?_
    refine ACode_loopW (fun k0 E H => ∃ (x1 : Int) (x2 : Int), E = [(0, .d (.sl none (intsD p0))), (1, iV x1), (5, iV x2)] ∧ H = [] ∧ laws_heldInt64S_l0 p0 k0 x1 x2 = some os6) k _ _ (Weak_keep 0 hm [0, 1, 5] [] _ _ rfl rfl rfl) ⟨_, _, rfl, rfl, h⟩ ?_
    clear h
    rintro k0 E H ⟨x1, x2, rfl, rfl, h⟩
    cases k0 with
    | zero => cases (show (none : Option (Sum (Int) (Int))) = some _ from h)
    | succ k0 =>
      rw [laws_heldInt64S_l0] at h
      refine ACode_seq ?_
      refine ACode_seq (ACode_region ?_)
      refine AOps_q 6 _ rfl rfl rfl (QOp_move _ _ rfl rfl) ?_
      refine AOps_q 7 _ rfl rfl rfl (QOp_move _ _ rfl rfl) ?_
      refine AOps_q 8 _ rfl rfl rfl (QOp_len_sl _ _ _ _ _ _ _ (intsD_length _) rfl rfl rfl rfl Try.underlying40 rfl) ?_
      refine AOps_q 9 _ rfl rfl rfl (QOp_lss _ _ _ _ _ _ _ rfl rfl rfl) ?_
      refine AOps_nil ?_
      refine ACode_cond _ rfl (fun hb3 => ?_) (fun hb3 => ?_)
      · have h := iteT hb3 h
        refine ACode_skip ?_
        refine ACode_seq ?_
        refine ACode_block ?_
        refine ACode_seq ?_
        refine ACode_seq (ACode_region ?_)
        refine AOps_q 12 _ rfl rfl rfl (QOp_move _ _ rfl rfl) ?_
        refine AOps_q 13 _ rfl rfl rfl (QOp_move _ _ rfl rfl) ?_
        obtain ⟨hc4, h⟩ := guardO h
        refine AOps_q 14 _ rfl rfl rfl (QOp_indexAddr_sl _ _ _ _ _ _ _ _ rfl Try.underlying40 Try.sizeOf2 hc4.1 (by rw [intsD_length]; exact hc4.2) rfl rfl) ?_
        refine AOps_q 15 _ rfl rfl rfl (QOp_load_pv _ _ _ _ _ rfl Try.isAgg2 rfl (intsD_get _ _ 0 (by omega))) ?_
        refine AOps_q 16 _ rfl rfl rfl (QOp_move _ _ rfl rfl) ?_
        refine AOps_q 17 _ rfl rfl rfl (QOp_neq _ _ _ _ _ _ _ rfl rfl rfl) ?_
        refine AOps_nil ?_
        refine ACode_cond _ rfl (fun hb5 => ?_) (fun hb5 => ?_)
        · have h := iteT hb5 h
          refine ACode_seq (ACode_region ?_)
          refine AOps_q 4 _ rfl rfl rfl (QOp_assign _ _ rfl rfl) ?_
          refine AOps_nil ?_
          refine ACode_ret ?_
          cases h
          have h := hks6
          cases h
          exact ⟨_, _, fun r a w h => ⟨r, h⟩, _, _, [], _, (.cons (ResV_tmp _ _ rfl) .nil), rfl, rfl, rfl, rfl, rfl⟩
        · have h := iteF hb5 h
          refine ACode_skip ?_
          refine (ACode_region ?_)
          refine AOps_q 18 _ rfl rfl rfl (QOp_move _ _ rfl rfl) ?_
          refine AOps_q 19 _ rfl rfl rfl (QOp_add _ _ _ _ _ _ _ rfl rfl rfl) ?_
          refine AOps_q 1 _ rfl rfl rfl (QOp_assign _ _ rfl rfl) ?_
          refine AOps_nil ?_
          refine (ACode_region ?_)
          refine AOps_q 10 _ rfl rfl rfl (QOp_move _ _ rfl rfl) ?_
          refine AOps_q 11 _ rfl rfl rfl (QOp_add _ _ _ _ _ _ _ rfl rfl rfl) ?_
          refine AOps_q 5 _ rfl rfl rfl (QOp_assign _ _ rfl rfl) ?_
          refine AOps_nil ?_
          exact ⟨k0, _, _, Nat.lt_succ_self _, Weak_keep 0 hm [0, 1, 5] [] _ _ rfl rfl rfl, _, _, rfl, rfl, h⟩
      · have h := iteF hb3 h
        refine ACode_exit ?_
        cases h
        exact ⟨_, rfl, Weak_keep 0 hm [1] [] _ _ rfl rfl rfl⟩
  rintro E' H' ⟨s6, rfl, hw⟩
  refine ACode_weak hw ?_
  have h := hks6
  refine ACode_seq (ACode_region ?_)
  refine AOps_q 20 _ rfl rfl rfl (QOp_move _ _ rfl rfl) ?_
  refine AOps_q 4 _ rfl rfl rfl (QOp_assign _ _ rfl rfl) ?_
  refine AOps_nil ?_
  refine ACode_ret ?_
  cases h
  exact ⟨_, _, fun r a w h => ⟨r, h⟩, _, _, [], _, (.cons (ResV_tmp _ _ rfl) .nil), rfl, rfl, rfl, rfl, rfl⟩

-- loop.example/g01362/laws.heldInt64SS
def laws_heldInt64SS_l0 (k : Nat) (p0 : List (List Int)) : Nat → Int → Int → Option (Sum (Int) (Int))
  | 0, _, _ => none
  | k0 + 1, x1, x2 => (if decide (x2 < (p0.length : Int)) then (if 0 ≤ x2 ∧ x2 < (p0.length : Int) then (laws_heldInt64S k (p0.getD x2.toNat []) x1).bind fun r5 => (if decide (r5 < 0) then some (.inr (-1)) else laws_heldInt64SS_l0 k p0 k0 r5 (w64 (x2 + 1))) else none) else some (.inl x1))
def laws_heldInt64SS (k : Nat) (p0 : List (List Int)) (p1 : Int) : Option (Int) :=
  (laws_heldInt64SS_l0 k p0 k p1 0 : Option (Sum (Int) (Int))).bind fun os7 => (match os7 with | .inl s7 => some s7 | .inr rr => some rr)
set_option maxRecDepth 100000 in
theorem laws_heldInt64SS_ac (k : Nat) (p0 : List (List Int)) (p1 : Int) (r : Int) (h : laws_heldInt64SS k p0 p1 = some r) : AC Try.prog 12 [.d (.sl none (rowsD p0)), iV p1] [] (fun res H' => res = [iV r] ∧ H' = []) := by
  refine AC_of_body true Try.func12 rfl Try.ntmps12 (rvs := [.tmp 4]) rfl rfl (fun G hG => ?_)
  have hm : G.H.length = 0 := by rw [hG]; rfl
  have hz : zeroG G.H = true := by rw [hG]; rfl
  unfold laws_heldInt64SS at h
  refine ACode_seq (ACode_region ?_)
  refine AOps_q 4 _ rfl rfl rfl (QOp_assign _ _ rfl rfl) ?_
  refine AOps_nil ?_
  obtain ⟨os7, hss7, hks7⟩ := bindO h
  clear h
  refine ACode_seqJ (fun E' H' => ∃ s7 : Int, os7 = .inl s7 ∧ Weak 21 G E' H' [(1, iV s7)] []) ?_ ?_
  · have h := hss7
    clear hss7
    refine ACode_seq (ACode_region ?_)
    refine AOps_q 5 _ rfl rfl rfl (QOp_assign _ _ rfl rfl) ?_
    refine AOps_nil ?_
    refine ACode_block ?_
    refine ACode_loopW (fun k0 E H => ∃ (x1 : Int) (x2 : Int), E = [(0, .d (.sl none (rowsD p0))), (1, iV x1), (5, iV x2)] ∧ H = [] ∧ laws_heldInt64SS_l0 k p0 k0 x1 x2 = some os7) k _ _ (Weak_keep 0 hm [0, 1, 5] [] _ _ rfl rfl rfl) ⟨_, _, rfl, rfl, h⟩ ?_
    clear h
    rintro k0 E H ⟨x1, x2, rfl, rfl, h⟩
    cases k0 with
    | zero => cases (show (none : Option (Sum (Int) (Int))) = some _ from h)
    | succ k0 =>
      rw [laws_heldInt64SS_l0] at h
      refine ACode_seq ?_
      refine ACode_seq (ACode_region ?_)
      refine AOps_q 6 _ rfl rfl rfl (QOp_move _ _ rfl rfl) ?_
      refine AOps_q 7 _ rfl rfl rfl (QOp_move _ _ rfl rfl) ?_
      refine AOps_q 8 _ rfl rfl rfl (QOp_len_sl _ _ _ _ _ _ _ (rowsD_length _) rfl rfl rfl rfl Try.underlying25 rfl) ?_
      refine AOps_q 9 _ rfl rfl rfl (QOp_lss _ _ _ _ _ _ _ rfl rfl rfl) ?_
      refine AOps_nil ?_
      refine ACode_cond _ rfl (fun hb3 => ?_) (fun hb3 => ?_)
      · have h := iteT hb3 h
        refine ACode_skip ?_
        refine ACode_seq ?_
        refine ACode_block ?_
        refine ACode_seq (ACode_region ?_)
        refine AOps_q 12 _ rfl rfl rfl (QOp_move _ _ rfl rfl) ?_
        refine AOps_q 13 _ rfl rfl rfl (QOp_move _ _ rfl rfl) ?_
        obtain ⟨hc4, h⟩ := guardO h
        refine AOps_q 14 _ rfl rfl rfl (QOp_indexAddr_sl _ _ _ _ _ _ _ _ rfl Try.underlying25 Try.sizeOf40 hc4.1 (by rw [rowsD_length]; exact hc4.2) rfl rfl) ?_
        refine AOps_q 15 _ rfl rfl rfl (QOp_load_pv _ _ _ _ _ rfl Try.isAgg40 rfl (rowsD_get _ _ [] (by omega))) ?_
        refine AOps_q 16 _ rfl rfl rfl (QOp_move _ _ rfl rfl) ?_
        obtain ⟨r5, hr5, h⟩ := bindO h
        refine AOps_call [] 17 _ _ _ _ _ _ _ _ _ _ rfl rfl rfl rfl rfl rfl rfl Try.call31 rfl (nodupB_sound _ rfl) rfl rfl rfl (laws_heldInt64S_ac k (p0.getD x2.toNat []) x1 _ hr5) ?_
        rintro _ _ ⟨rfl, rfl⟩
        refine ⟨(fun _ h => nomatch h), (allc (trivial) (fun _ h => nomatch h)), AOps_as 17 (v' := iV r5) (H' := []) rfl rfl ?_⟩
        refine AOps_q 1 _ rfl rfl rfl (QOp_assign _ _ rfl rfl) ?_
        refine AOps_nil ?_
        refine ACode_seq (ACode_region ?_)
        refine AOps_q 18 _ rfl rfl rfl (QOp_move _ _ rfl rfl) ?_
        refine AOps_q 19 _ rfl rfl rfl (QOp_lss _ _ _ _ _ _ _ rfl rfl rfl) ?_
        refine AOps_nil ?_
        refine ACode_cond _ rfl (fun hb6 => ?_) (fun hb6 => ?_)
        · have h := iteT hb6 h
          refine ACode_seq (ACode_region ?_)
          refine AOps_q 4 _ rfl rfl rfl (QOp_assign _ _ rfl rfl) ?_
          refine AOps_nil ?_
          refine ACode_ret ?_
          cases h
          have h := hks7
          cases h
          exact ⟨_, _, fun r a w h => ⟨r, h⟩, _, _, [], _, (.cons (ResV_tmp _ _ rfl) .nil), rfl, rfl, rfl, rfl, rfl⟩
        · have h := iteF hb6 h
          refine ACode_skip ?_
          refine (ACode_region ?_)
          refine AOps_q 10 _ rfl rfl rfl (QOp_move _ _ rfl rfl) ?_
          refine AOps_q 11 _ rfl rfl rfl (QOp_add _ _ _ _ _ _ _ rfl rfl rfl) ?_
          refine AOps_q 5 _ rfl rfl rfl (QOp_assign _ _ rfl rfl) ?_
          refine AOps_nil ?_
          exact ⟨k0, _, _, Nat.lt_succ_self _, Weak_keep 0 hm [0, 1, 5] [] _ _ rfl rfl rfl, _, _, rfl, rfl, h⟩
      · have h := iteF hb3 h
        refine ACode_exit ?_
        cases h
        exact ⟨_, rfl, Weak_keep 0 hm [1] [] _ _ rfl rfl rfl⟩
  rintro E' H' ⟨s7, rfl, hw⟩
  refine ACode_weak hw ?_
  have h := hks7
  refine ACode_seq (ACode_region ?_)
  refine AOps_q 20 _ rfl rfl rfl (QOp_move _ _ rfl rfl) ?_
  refine AOps_q 4 _ rfl rfl rfl (QOp_assign _ _ rfl rfl) ?_
  refine AOps_nil ?_
  refine ACode_ret ?_
  cases h
  exact ⟨_, _, fun r a w h => ⟨r, h⟩, _, _, [], _, (.cons (ResV_tmp _ _ rfl) .nil), rfl, rfl, rfl, rfl, rfl⟩

-- loop.example/g01362/laws.FnExactComponentsOf
def laws_FnExactComponentsOf (k : Nat) (p0 : Col) (p1 : Int) : Option (Bool) :=
  (laws_toColouring k p0).bind fun r1 => (spec_ComponentsOf k r1 p1).bind fun r2 => (laws_toColouring k p0).bind fun r3 => (impl_ComponentsOf k r3 p1).bind fun r4 => (match r4.1 with | none => (((laws_eqInt64SS k ([]) r2.1).bind fun r7 => (if !r7 then some true else some (!decide (r4.2 = r2.2))) : Option (Bool)).bind fun s9 => (if s9 then some (.inr false) else some (.inl ())) : Option (Sum (Unit) (Bool))).bind fun os11 => (match os11 with | .inl s11 => (laws_markInt64SS k ([]) 1).bind fun r12 => (laws_heldInt64SS k ([]) 1).bind fun r13 => (if decide (r13 < 0) then some false else (if !decide (r13 = r12) then some false else (laws_toColouring k p0).bind fun r16 => (impl_ComponentsOf k r16 p1).bind fun r17 => (match r17.1 with | none => (((laws_eqInt64SS k ([]) r2.1).bind fun r20 => (if !r20 then some true else some (!decide (r17.2 = r2.2))) : Option (Bool)).bind fun s22 => (if s22 then some (.inr false) else some (.inl ())) : Option (Sum (Unit) (Bool))).bind fun os24 => (match os24 with | .inl s24 => (laws_heldInt64SS k ([]) 1).bind fun r25 => (if decide (r25 < 0) then some false else (if !decide (r25 = r12) then some false else some true)) | .inr rr => some rr) | some l18 => (((laws_eqInt64SS k l18 r2.1).bind fun r28 => (if !r28 then some true else some (!decide (r17.2 = r2.2))) : Option (Bool)).bind fun s30 => (if s30 then some (.inr false) else some (.inl ())) : Option (Sum (Unit) (Bool))).bind fun os32 => (match os32 with | .inl s32 => (laws_heldInt64SS k ([]) 1).bind fun r33 => (if decide (r33 < 0) then some false else (if !decide (r33 = r12) then some false else some true)) | .inr rr => some rr)))) | .inr rr => some rr) | some l5 => (((laws_eqInt64SS k l5 r2.1).bind fun r36 => (if !r36 then some true else some (!decide (r4.2 = r2.2))) : Option (Bool)).bind fun s38 => (if s38 then some (.inr false) else some (.inl ())) : Option (Sum (Unit) (Bool))).bind fun os40 => (match os40 with | .inl s40 => (laws_markInt64SS k l5 1).bind fun r41 => (laws_heldInt64SS k l5 1).bind fun r42 => (if decide (r42 < 0) then some false else (if !decide (r42 = r41) then some false else (laws_toColouring k p0).bind fun r45 => (impl_ComponentsOf k r45 p1).bind fun r46 => (match r46.1 with | none => (((laws_eqInt64SS k ([]) r2.1).bind fun r49 => (if !r49 then some true else some (!decide (r46.2 = r2.2))) : Option (Bool)).bind fun s51 => (if s51 then some (.inr false) else some (.inl ())) : Option (Sum (Unit) (Bool))).bind fun os53 => (match os53 with | .inl s53 => (laws_heldInt64SS k l5 1).bind fun r54 => (if decide (r54 < 0) then some false else (if !decide (r54 = r41) then some false else some true)) | .inr rr => some rr) | some l47 => (((laws_eqInt64SS k l47 r2.1).bind fun r57 => (if !r57 then some true else some (!decide (r46.2 = r2.2))) : Option (Bool)).bind fun s59 => (if s59 then some (.inr false) else some (.inl ())) : Option (Sum (Unit) (Bool))).bind fun os61 => (match os61 with | .inl s61 => (laws_heldInt64SS k l5 1).bind fun r62 => (if decide (r62 < 0) then some false else (if !decide (r62 = r41) then some false else some true)) | .inr rr => some rr)))) | .inr rr => some rr))
set_option maxRecDepth 100000 in
theorem laws_FnExactComponentsOf_ac (k : Nat) (p0 : Col) (p1 : Int) (r : Bool) (h : laws_FnExactComponentsOf k p0 p1 = some r) : AC Try.prog 3 [.d (.agg (colD p0)), iV p1] [] (fun res H' => res = [bV r] ∧ H' = []) := by
  refine AC_of_body true Try.func3 rfl Try.ntmps3 (rvs := [.tmp 4]) rfl rfl (fun G hG => ?_)
  have hm : G.H.length = 0 := by rw [hG]; rfl
  have hz : zeroG G.H = true := by rw [hG]; rfl
  unfold laws_FnExactComponentsOf at h
  refine ACode_seq (ACode_region ?_)
  refine AOps_boxI 2 _ _ (.agg (colD p0)) (colD p0) rfl (colD_one _) rfl rfl rfl rfl rfl ?_
  refine AOps_q 4 _ rfl rfl rfl (QOp_assign _ _ rfl rfl) ?_
  refine AOps_nil ?_
  refine ACode_seq (ACode_region ?_)
  refine AOps_q 14 _ rfl rfl rfl (QOp_loadN_pv _ _ _ _ _ _ rfl Try.isAgg24 Try.sizeOf24 rfl (colD_all _) (colD_length _)) ?_
  obtain ⟨r1, hr1, h⟩ := bindO h
  refine AOps_call [] 15 _ _ _ _ _ _ _ _ _ _ rfl rfl rfl rfl rfl rfl rfl Try.call8 rfl (nodupB_sound _ rfl) rfl rfl rfl (laws_toColouring_ac k p0 _ hr1) ?_
  rintro _ _ ⟨rfl, rfl⟩
  refine ⟨(fun _ h => nomatch h), (allc (trivial) (fun _ h => nomatch h)), AOps_as 15 (v' := .d (.agg (colD r1))) (H' := []) rfl rfl ?_⟩
  refine AOps_q 16 _ rfl rfl rfl (QOp_move _ _ rfl rfl) ?_
  obtain ⟨r2, hr2, h⟩ := bindO h
  refine AOps_call [] 17 _ _ _ _ _ _ _ _ _ _ rfl rfl rfl rfl rfl rfl rfl Try.call7 rfl (nodupB_sound _ rfl) rfl rfl rfl (spec_ComponentsOf_ac k r1 p1 _ hr2) ?_
  rintro _ _ ⟨rfl, rfl⟩
  refine ⟨(fun _ h => nomatch h), (allc (trivial) (allc (trivial) (fun _ h => nomatch h))), AOps_as 17 (v' := .tup [.d (.sl none (rowsD r2.1)), iV r2.2]) (H' := []) rfl rfl ?_⟩
  refine AOps_q 13 _ rfl rfl rfl (QOp_move _ _ rfl rfl) ?_
  refine AOps_q 18 _ rfl rfl rfl (QOp_extract _ _ _ _ rfl rfl rfl) ?_
  refine AOps_q 19 _ rfl rfl rfl (QOp_extract _ _ _ _ rfl rfl rfl) ?_
  refine AOps_q 5 _ rfl rfl rfl (QOp_assign _ _ rfl rfl) ?_
  refine AOps_q 6 _ rfl rfl rfl (QOp_assign _ _ rfl rfl) ?_
  refine AOps_nil ?_
  refine ACode_seq (ACode_region ?_)
  refine AOps_q 21 _ rfl rfl rfl (QOp_loadN_pv _ _ _ _ _ _ rfl Try.isAgg24 Try.sizeOf24 rfl (colD_all _) (colD_length _)) ?_
  obtain ⟨r3, hr3, h⟩ := bindO h
  refine AOps_call [] 22 _ _ _ _ _ _ _ _ _ _ rfl rfl rfl rfl rfl rfl rfl Try.call8 rfl (nodupB_sound _ rfl) rfl rfl rfl (laws_toColouring_ac k p0 _ hr3) ?_
  rintro _ _ ⟨rfl, rfl⟩
  refine ⟨(fun _ h => nomatch h), (allc (trivial) (fun _ h => nomatch h)), AOps_as 22 (v' := .d (.agg (colD r3))) (H' := []) rfl rfl ?_⟩
  refine AOps_q 23 _ rfl rfl rfl (QOp_move _ _ rfl rfl) ?_
  obtain ⟨r4, hr4, h⟩ := bindO h
  refine AOps_call [] 24 _ _ _ _ _ _ _ _ _ _ rfl rfl rfl rfl rfl rfl rfl Try.call9 rfl (nodupB_sound _ rfl) rfl rfl rfl (impl_ComponentsOf_ac k r3 p1 _ hr4) ?_
  revert h
  cases hx6 : r4.1 with
  | none =>
    intro h
    rintro _ _ ⟨rfl, rfl⟩
    refine ⟨(fun _ h => nomatch h), (allc (trivial) (allc (trivial) (fun _ h => nomatch h))), AOps_as 24 (v' := .tup [.d (.sl (some true) []), iV r4.2]) (H' := []) rfl rfl ?_⟩
    refine AOps_q 20 _ rfl rfl rfl (QOp_move _ _ rfl rfl) ?_
    refine AOps_q 25 _ rfl rfl rfl (QOp_extract _ _ _ _ rfl rfl rfl) ?_
    refine AOps_q 26 _ rfl rfl rfl (QOp_extract _ _ _ _ rfl rfl rfl) ?_
    refine AOps_q 7 _ rfl rfl rfl (QOp_assign _ _ rfl rfl) ?_
    refine AOps_q 8 _ rfl rfl rfl (QOp_assign _ _ rfl rfl) ?_
    refine AOps_nil ?_
    obtain ⟨os11, hss11, hks11⟩ := bindO h
    clear h
    refine ACode_seqJ (fun E' H' => ∃ s11 : Unit, os11 = .inl s11 ∧ Weak 71 G E' H' [(1, iV p1), (2, .d (.pv (colD p0) 0)), (5, .d (.sl none (rowsD r2.1))), (6, iV r2.2), (7, .d (.sl (some true) []))] []) ?_ ?_
    · have h := hss11
      clear hss11
      obtain ⟨s9, hss9, hks9⟩ := bindO h
      clear h
      refine ACode_seqJ (fun E' H' => Weak 71 G E' H' [(1, iV p1), (2, .d (.pv (colD p0) 0)), (5, .d (.sl none (rowsD r2.1))), (6, iV r2.2), (7, .d (.sl (some true) [])), (35, bV s9)] []) ?_ ?_
      · have h := hss9
        clear hss9
        refine (ACode_region ?_)
        refine AOps_q 27 _ rfl rfl rfl (QOp_move _ _ rfl rfl) ?_
        refine AOps_q 28 _ rfl rfl rfl (QOp_move _ _ rfl rfl) ?_
        obtain ⟨r7, hr7, h⟩ := bindO h
        refine AOps_call [] 29 _ _ _ _ _ _ _ _ _ _ rfl rfl rfl rfl rfl rfl rfl Try.call10 rfl (nodupB_sound _ rfl) rfl rfl rfl (laws_eqInt64SS_ac k ([]) r2.1 _ hr7) ?_
        rintro _ _ ⟨rfl, rfl⟩
        refine ⟨(fun _ h => nomatch h), (allc (trivial) (fun _ h => nomatch h)), AOps_as 29 (v' := bV r7) (H' := []) rfl rfl ?_⟩
        refine AOps_q 30 _ rfl rfl rfl (QOp_not _ _ _ rfl rfl) ?_
        refine AOps_q 31 _ rfl rfl rfl (QOp_move _ _ rfl rfl) ?_
        refine AOps_case 31 _ rfl (fun hb8 => ?_) (fun hb8 => ?_)
        · have h := iteT hb8 h
          refine AOps_skip 32 rfl rfl rfl ?_
          refine AOps_skip 33 rfl rfl rfl ?_
          refine AOps_skip 34 rfl rfl rfl ?_
          refine AOps_q 35 _ rfl rfl rfl (QOp_pick_t _ _ _ _ rfl rfl rfl) ?_
          refine AOps_nil ?_
          cases h
          exact Weak_keep 0 hm [1, 2, 5, 6, 7, 35] [] _ _ rfl rfl rfl
        · have h := iteF hb8 h
          refine AOps_q 32 _ rfl rfl rfl (QOp_move _ _ rfl rfl) ?_
          refine AOps_q 33 _ rfl rfl rfl (QOp_move _ _ rfl rfl) ?_
          refine AOps_q 34 _ rfl rfl rfl (QOp_neq _ _ _ _ _ _ _ rfl rfl rfl) ?_
          refine AOps_q 35 _ rfl rfl rfl (QOp_pick_f _ _ _ _ rfl rfl rfl) ?_
          refine AOps_nil ?_
          cases h
          exact Weak_keep 0 hm [1, 2, 5, 6, 7, 35] [] _ _ rfl rfl rfl
      intro E' H' hw
      refine ACode_weak hw ?_
      have h := hks9
      refine ACode_cond _ rfl (fun hb10 => ?_) (fun hb10 => ?_)
      · have h := iteT hb10 h
        refine ACode_seq (ACode_region ?_)
        refine AOps_q 4 _ rfl rfl rfl (QOp_assign _ _ rfl rfl) ?_
        refine AOps_nil ?_
        refine ACode_ret ?_
        cases h
        have h := hks11
        cases h
        exact ⟨_, _, fun r a w h => ⟨r, h⟩, _, _, [], _, (.cons (ResV_tmp _ _ rfl) .nil), rfl, rfl, rfl, rfl, rfl⟩
      · have h := iteF hb10 h
        refine ACode_skip ?_
        cases h
        exact ⟨_, rfl, Weak_keep 0 hm [1, 2, 5, 6, 7] [] _ _ rfl rfl rfl⟩
    rintro E' H' ⟨s11, rfl, hw⟩
    refine ACode_weak hw ?_
    have h := hks11
    refine ACode_seq (ACode_region ?_)
    refine AOps_q 9 _ rfl rfl rfl (QOp_assign _ _ rfl rfl) ?_
    refine AOps_nil ?_
    refine ACode_seq (ACode_region ?_)
    refine AOps_q 36 _ rfl rfl rfl (QOp_move _ _ rfl rfl) ?_
    refine AOps_q 37 _ rfl rfl rfl (QOp_move _ _ rfl rfl) ?_
    obtain ⟨r12, hr12, h⟩ := bindO h
    refine AOps_call [] 38 _ _ _ _ _ _ _ _ _ _ rfl rfl rfl rfl rfl rfl rfl Try.call11 rfl (nodupB_sound _ rfl) rfl rfl rfl (laws_markInt64SS_ac k ([]) 1 _ hr12) ?_
    rintro _ _ ⟨rfl, rfl⟩
    refine ⟨(fun _ h => nomatch h), (allc (trivial) (fun _ h => nomatch h)), AOps_as 38 (v' := iV r12) (H' := []) rfl rfl ?_⟩
    refine AOps_q 9 _ rfl rfl rfl (QOp_assign _ _ rfl rfl) ?_
    refine AOps_nil ?_
    refine ACode_seq (ACode_region ?_)
    refine AOps_q 10 _ rfl rfl rfl (QOp_assign _ _ rfl rfl) ?_
    refine AOps_nil ?_
    refine ACode_seq (ACode_region ?_)
    refine AOps_q 39 _ rfl rfl rfl (QOp_move _ _ rfl rfl) ?_
    refine AOps_q 40 _ rfl rfl rfl (QOp_move _ _ rfl rfl) ?_
    obtain ⟨r13, hr13, h⟩ := bindO h
    refine AOps_call [] 41 _ _ _ _ _ _ _ _ _ _ rfl rfl rfl rfl rfl rfl rfl Try.call12 rfl (nodupB_sound _ rfl) rfl rfl rfl (laws_heldInt64SS_ac k ([]) 1 _ hr13) ?_
    rintro _ _ ⟨rfl, rfl⟩
    refine ⟨(fun _ h => nomatch h), (allc (trivial) (fun _ h => nomatch h)), AOps_as 41 (v' := iV r13) (H' := []) rfl rfl ?_⟩
    refine AOps_q 10 _ rfl rfl rfl (QOp_assign _ _ rfl rfl) ?_
    refine AOps_nil ?_
    refine ACode_seq ?_
    refine ACode_seq (ACode_region ?_)
    refine AOps_q 42 _ rfl rfl rfl (QOp_move _ _ rfl rfl) ?_
    refine AOps_q 43 _ rfl rfl rfl (QOp_lss _ _ _ _ _ _ _ rfl rfl rfl) ?_
    refine AOps_nil ?_
    refine ACode_cond _ rfl (fun hb14 => ?_) (fun hb14 => ?_)
    · have h := iteT hb14 h
      refine ACode_seq (ACode_region ?_)
      refine AOps_q 4 _ rfl rfl rfl (QOp_assign _ _ rfl rfl) ?_
      refine AOps_nil ?_
      refine ACode_ret ?_
      cases h
      exact ⟨_, _, fun r a w h => ⟨r, h⟩, _, _, [], _, (.cons (ResV_tmp _ _ rfl) .nil), rfl, rfl, rfl, rfl, rfl⟩
    · have h := iteF hb14 h
      refine ACode_skip ?_
      refine ACode_seq ?_
      refine ACode_seq (ACode_region ?_)
      refine AOps_q 44 _ rfl rfl rfl (QOp_move _ _ rfl rfl) ?_
      refine AOps_q 45 _ rfl rfl rfl (QOp_move _ _ rfl rfl) ?_
      refine AOps_q 46 _ rfl rfl rfl (QOp_neq _ _ _ _ _ _ _ rfl rfl rfl) ?_
      refine AOps_nil ?_
      refine ACode_cond _ rfl (fun hb15 => ?_) (fun hb15 => ?_)
      · have h := iteT hb15 h
        refine ACode_seq (ACode_region ?_)
        refine AOps_q 4 _ rfl rfl rfl (QOp_assign _ _ rfl rfl) ?_
        refine AOps_nil ?_
        refine ACode_ret ?_
        cases h
        exact ⟨_, _, fun r a w h => ⟨r, h⟩, _, _, [], _, (.cons (ResV_tmp _ _ rfl) .nil), rfl, rfl, rfl, rfl, rfl⟩
      · have h := iteF hb15 h
        refine ACode_skip ?_
        refine ACode_seq (ACode_region ?_)
        refine AOps_q 48 _ rfl rfl rfl (QOp_loadN_pv _ _ _ _ _ _ rfl Try.isAgg24 Try.sizeOf24 rfl (colD_all _) (colD_length _)) ?_
        obtain ⟨r16, hr16, h⟩ := bindO h
        refine AOps_call [] 49 _ _ _ _ _ _ _ _ _ _ rfl rfl rfl rfl rfl rfl rfl Try.call8 rfl (nodupB_sound _ rfl) rfl rfl rfl (laws_toColouring_ac k p0 _ hr16) ?_
        rintro _ _ ⟨rfl, rfl⟩
        refine ⟨(fun _ h => nomatch h), (allc (trivial) (fun _ h => nomatch h)), AOps_as 49 (v' := .d (.agg (colD r16))) (H' := []) rfl rfl ?_⟩
        refine AOps_q 50 _ rfl rfl rfl (QOp_move _ _ rfl rfl) ?_
        obtain ⟨r17, hr17, h⟩ := bindO h
        refine AOps_call [] 51 _ _ _ _ _ _ _ _ _ _ rfl rfl rfl rfl rfl rfl rfl Try.call9 rfl (nodupB_sound _ rfl) rfl rfl rfl (impl_ComponentsOf_ac k r16 p1 _ hr17) ?_
        revert h
        cases hx19 : r17.1 with
        | none =>
          intro h
          rintro _ _ ⟨rfl, rfl⟩
          refine ⟨(fun _ h => nomatch h), (allc (trivial) (allc (trivial) (fun _ h => nomatch h))), AOps_as 51 (v' := .tup [.d (.sl (some true) []), iV r17.2]) (H' := []) rfl rfl ?_⟩
          refine AOps_q 47 _ rfl rfl rfl (QOp_move _ _ rfl rfl) ?_
          refine AOps_q 52 _ rfl rfl rfl (QOp_extract _ _ _ _ rfl rfl rfl) ?_
          refine AOps_q 53 _ rfl rfl rfl (QOp_extract _ _ _ _ rfl rfl rfl) ?_
          refine AOps_q 11 _ rfl rfl rfl (QOp_assign _ _ rfl rfl) ?_
          refine AOps_q 12 _ rfl rfl rfl (QOp_assign _ _ rfl rfl) ?_
          refine AOps_nil ?_
          obtain ⟨os24, hss24, hks24⟩ := bindO h
          clear h
          refine ACode_seqJ (fun E' H' => ∃ s24 : Unit, os24 = .inl s24 ∧ Weak 71 G E' H' [(7, .d (.sl (some true) [])), (9, iV r12)] []) ?_ ?_
          · have h := hss24
            clear hss24
            obtain ⟨s22, hss22, hks22⟩ := bindO h
            clear h
            refine ACode_seqJ (fun E' H' => Weak 71 G E' H' [(7, .d (.sl (some true) [])), (9, iV r12), (62, bV s22)] []) ?_ ?_
            · have h := hss22
              clear hss22
              refine (ACode_region ?_)
              refine AOps_q 54 _ rfl rfl rfl (QOp_move _ _ rfl rfl) ?_
              refine AOps_q 55 _ rfl rfl rfl (QOp_move _ _ rfl rfl) ?_
              obtain ⟨r20, hr20, h⟩ := bindO h
              refine AOps_call [] 56 _ _ _ _ _ _ _ _ _ _ rfl rfl rfl rfl rfl rfl rfl Try.call10 rfl (nodupB_sound _ rfl) rfl rfl rfl (laws_eqInt64SS_ac k ([]) r2.1 _ hr20) ?_
              rintro _ _ ⟨rfl, rfl⟩
              refine ⟨(fun _ h => nomatch h), (allc (trivial) (fun _ h => nomatch h)), AOps_as 56 (v' := bV r20) (H' := []) rfl rfl ?_⟩
              refine AOps_q 57 _ rfl rfl rfl (QOp_not _ _ _ rfl rfl) ?_
              refine AOps_q 58 _ rfl rfl rfl (QOp_move _ _ rfl rfl) ?_
              refine AOps_case 58 _ rfl (fun hb21 => ?_) (fun hb21 => ?_)
              · have h := iteT hb21 h
                refine AOps_skip 59 rfl rfl rfl ?_
                refine AOps_skip 60 rfl rfl rfl ?_
                refine AOps_skip 61 rfl rfl rfl ?_
                refine AOps_q 62 _ rfl rfl rfl (QOp_pick_t _ _ _ _ rfl rfl rfl) ?_
                refine AOps_nil ?_
                cases h
                exact Weak_keep 0 hm [7, 9, 62] [] _ _ rfl rfl rfl
              · have h := iteF hb21 h
                refine AOps_q 59 _ rfl rfl rfl (QOp_move _ _ rfl rfl) ?_
                refine AOps_q 60 _ rfl rfl rfl (QOp_move _ _ rfl rfl) ?_
                refine AOps_q 61 _ rfl rfl rfl (QOp_neq _ _ _ _ _ _ _ rfl rfl rfl) ?_
                refine AOps_q 62 _ rfl rfl rfl (QOp_pick_f _ _ _ _ rfl rfl rfl) ?_
                refine AOps_nil ?_
                cases h
                exact Weak_keep 0 hm [7, 9, 62] [] _ _ rfl rfl rfl
            intro E' H' hw
            refine ACode_weak hw ?_
            have h := hks22
            refine ACode_cond _ rfl (fun hb23 => ?_) (fun hb23 => ?_)
            · have h := iteT hb23 h
              refine ACode_seq (ACode_region ?_)
              refine AOps_q 4 _ rfl rfl rfl (QOp_assign _ _ rfl rfl) ?_
              refine AOps_nil ?_
              refine ACode_ret ?_
              cases h
              have h := hks24
              cases h
              exact ⟨_, _, fun r a w h => ⟨r, h⟩, _, _, [], _, (.cons (ResV_tmp _ _ rfl) .nil), rfl, rfl, rfl, rfl, rfl⟩
            · have h := iteF hb23 h
              refine ACode_skip ?_
              cases h
              exact ⟨_, rfl, Weak_keep 0 hm [7, 9] [] _ _ rfl rfl rfl⟩
          rintro E' H' ⟨s24, rfl, hw⟩
          refine ACode_weak hw ?_
          have h := hks24
          refine ACode_seq (ACode_region ?_)
          refine AOps_q 10 _ rfl rfl rfl (QOp_assign _ _ rfl rfl) ?_
          refine AOps_nil ?_
          refine ACode_seq (ACode_region ?_)
          refine AOps_q 63 _ rfl rfl rfl (QOp_move _ _ rfl rfl) ?_
          refine AOps_q 64 _ rfl rfl rfl (QOp_move _ _ rfl rfl) ?_
          obtain ⟨r25, hr25, h⟩ := bindO h
          refine AOps_call [] 65 _ _ _ _ _ _ _ _ _ _ rfl rfl rfl rfl rfl rfl rfl Try.call12 rfl (nodupB_sound _ rfl) rfl rfl rfl (laws_heldInt64SS_ac k ([]) 1 _ hr25) ?_
          rintro _ _ ⟨rfl, rfl⟩
          refine ⟨(fun _ h => nomatch h), (allc (trivial) (fun _ h => nomatch h)), AOps_as 65 (v' := iV r25) (H' := []) rfl rfl ?_⟩
          refine AOps_q 10 _ rfl rfl rfl (QOp_assign _ _ rfl rfl) ?_
          refine AOps_nil ?_
          refine ACode_seq ?_
          refine ACode_seq (ACode_region ?_)
          refine AOps_q 66 _ rfl rfl rfl (QOp_move _ _ rfl rfl) ?_
          refine AOps_q 67 _ rfl rfl rfl (QOp_lss _ _ _ _ _ _ _ rfl rfl rfl) ?_
          refine AOps_nil ?_
          refine ACode_cond _ rfl (fun hb26 => ?_) (fun hb26 => ?_)
          · have h := iteT hb26 h
            refine ACode_seq (ACode_region ?_)
            refine AOps_q 4 _ rfl rfl rfl (QOp_assign _ _ rfl rfl) ?_
            refine AOps_nil ?_
            refine ACode_ret ?_
            cases h
            exact ⟨_, _, fun r a w h => ⟨r, h⟩, _, _, [], _, (.cons (ResV_tmp _ _ rfl) .nil), rfl, rfl, rfl, rfl, rfl⟩
          · have h := iteF hb26 h
            refine ACode_skip ?_
            refine ACode_seq ?_
            refine ACode_seq (ACode_region ?_)
            refine AOps_q 68 _ rfl rfl rfl (QOp_move _ _ rfl rfl) ?_
            refine AOps_q 69 _ rfl rfl rfl (QOp_move _ _ rfl rfl) ?_
            refine AOps_q 70 _ rfl rfl rfl (QOp_neq _ _ _ _ _ _ _ rfl rfl rfl) ?_
            refine AOps_nil ?_
            refine ACode_cond _ rfl (fun hb27 => ?_) (fun hb27 => ?_)
            · have h := iteT hb27 h
              refine ACode_seq (ACode_region ?_)
              refine AOps_q 4 _ rfl rfl rfl (QOp_assign _ _ rfl rfl) ?_
              refine AOps_nil ?_
              refine ACode_ret ?_
              cases h
              exact ⟨_, _, fun r a w h => ⟨r, h⟩, _, _, [], _, (.cons (ResV_tmp _ _ rfl) .nil), rfl, rfl, rfl, rfl, rfl⟩
            · have h := iteF hb27 h
              refine ACode_skip ?_
              refine ACode_seq (ACode_region ?_)
              refine AOps_q 4 _ rfl rfl rfl (QOp_assign _ _ rfl rfl) ?_
              refine AOps_nil ?_
              refine ACode_ret ?_
              cases h
              exact ⟨_, _, fun r a w h => ⟨r, h⟩, _, _, [], _, (.cons (ResV_tmp _ _ rfl) .nil), rfl, rfl, rfl, rfl, rfl⟩
        | some l18 =>
          intro h
          rintro _ _ ⟨rfl, rfl⟩
          refine ⟨(allc (fun _ _ => trivial) (fun _ h => nomatch h)), (allc (trivial) (allc (trivial) (fun _ h => nomatch h))), AOps_as 51 (v' := .tup [.vec 0 0, iV r17.2]) (H' := [.vec 0 (rowsD l18)]) rfl rfl ?_⟩
          refine AOps_q 47 _ rfl rfl rfl (QOp_move _ _ rfl rfl) ?_
          refine AOps_q 52 _ rfl rfl rfl (QOp_extract _ _ _ _ rfl rfl rfl) ?_
          refine AOps_q 53 _ rfl rfl rfl (QOp_extract _ _ _ _ rfl rfl rfl) ?_
          refine AOps_q 11 _ rfl rfl rfl (QOp_assign _ _ rfl rfl) ?_
          refine AOps_q 12 _ rfl rfl rfl (QOp_assign _ _ rfl rfl) ?_
          refine AOps_nil ?_
          obtain ⟨os32, hss32, hks32⟩ := bindO h
          clear h
          refine ACode_seqJ (fun E' H' => ∃ s32 : Unit, os32 = .inl s32 ∧ Weak 71 G E' H' [(7, .d (.sl (some true) [])), (9, iV r12)] []) ?_ ?_
          · have h := hss32
            clear hss32
            obtain ⟨s30, hss30, hks30⟩ := bindO h
            clear h
            refine ACode_seqJ (fun E' H' => Weak 71 G E' H' [(7, .d (.sl (some true) [])), (9, iV r12), (62, bV s30)] []) ?_ ?_
            · have h := hss30
              clear hss30
              refine (ACode_region ?_)
              refine AOps_q 54 _ rfl rfl rfl (QOp_move _ _ rfl rfl) ?_
              refine AOps_q 55 _ rfl rfl rfl (QOp_move _ _ rfl rfl) ?_
              obtain ⟨r28, hr28, h⟩ := bindO h
              refine AOps_callL [] 56 _ _ _ _ _ _ _ _ _ _ rfl rfl rfl rfl rfl rfl rfl Try.call10 rfl (nodupB_sound _ rfl) rfl rfl rfl (laws_eqInt64SS_ac k l18 r2.1 _ hr28) ?_
              rintro _ _ ⟨rfl, rfl⟩
              refine ⟨(fun _ h => nomatch h), (allc (flat_s _) (fun _ h => nomatch h)), AOps_as 56 (v' := bV r28) (H' := [.vec 0 (rowsD l18)]) rfl rfl ?_⟩
              refine AOps_q 57 _ rfl rfl rfl (QOp_not _ _ _ rfl rfl) ?_
              refine AOps_q 58 _ rfl rfl rfl (QOp_move _ _ rfl rfl) ?_
              refine AOps_case 58 _ rfl (fun hb29 => ?_) (fun hb29 => ?_)
              · have h := iteT hb29 h
                refine AOps_skip 59 rfl rfl rfl ?_
                refine AOps_skip 60 rfl rfl rfl ?_
                refine AOps_skip 61 rfl rfl rfl ?_
                refine AOps_q 62 _ rfl rfl rfl (QOp_pick_t _ _ _ _ rfl rfl rfl) ?_
                refine AOps_nil ?_
                cases h
                exact Weak_keep 0 hm [7, 9, 62] [] _ _ rfl rfl rfl
              · have h := iteF hb29 h
                refine AOps_q 59 _ rfl rfl rfl (QOp_move _ _ rfl rfl) ?_
                refine AOps_q 60 _ rfl rfl rfl (QOp_move _ _ rfl rfl) ?_
                refine AOps_q 61 _ rfl rfl rfl (QOp_neq _ _ _ _ _ _ _ rfl rfl rfl) ?_
                refine AOps_q 62 _ rfl rfl rfl (QOp_pick_f _ _ _ _ rfl rfl rfl) ?_
                refine AOps_nil ?_
                cases h
                exact Weak_keep 0 hm [7, 9, 62] [] _ _ rfl rfl rfl
            intro E' H' hw
            refine ACode_weak hw ?_
            have h := hks30
            refine ACode_cond _ rfl (fun hb31 => ?_) (fun hb31 => ?_)
            · have h := iteT hb31 h
              refine ACode_seq (ACode_region ?_)
              refine AOps_q 4 _ rfl rfl rfl (QOp_assign _ _ rfl rfl) ?_
              refine AOps_nil ?_
              refine ACode_ret ?_
              cases h
              have h := hks32
              cases h
              exact ⟨_, _, fun r a w h => ⟨r, h⟩, _, _, [], _, (.cons (ResV_tmp _ _ rfl) .nil), rfl, rfl, rfl, rfl, rfl⟩
            · have h := iteF hb31 h
              refine ACode_skip ?_
              cases h
              exact ⟨_, rfl, Weak_keep 0 hm [7, 9] [] _ _ rfl rfl rfl⟩
          rintro E' H' ⟨s32, rfl, hw⟩
          refine ACode_weak hw ?_
          have h := hks32
          refine ACode_seq (ACode_region ?_)
          refine AOps_q 10 _ rfl rfl rfl (QOp_assign _ _ rfl rfl) ?_
          refine AOps_nil ?_
          refine ACode_seq (ACode_region ?_)
          refine AOps_q 63 _ rfl rfl rfl (QOp_move _ _ rfl rfl) ?_
          refine AOps_q 64 _ rfl rfl rfl (QOp_move _ _ rfl rfl) ?_
          obtain ⟨r33, hr33, h⟩ := bindO h
          refine AOps_call [] 65 _ _ _ _ _ _ _ _ _ _ rfl rfl rfl rfl rfl rfl rfl Try.call12 rfl (nodupB_sound _ rfl) rfl rfl rfl (laws_heldInt64SS_ac k ([]) 1 _ hr33) ?_
          rintro _ _ ⟨rfl, rfl⟩
          refine ⟨(fun _ h => nomatch h), (allc (trivial) (fun _ h => nomatch h)), AOps_as 65 (v' := iV r33) (H' := []) rfl rfl ?_⟩
          refine AOps_q 10 _ rfl rfl rfl (QOp_assign _ _ rfl rfl) ?_
          refine AOps_nil ?_
          refine ACode_seq ?_
          refine ACode_seq (ACode_region ?_)
          refine AOps_q 66 _ rfl rfl rfl (QOp_move _ _ rfl rfl) ?_
          refine AOps_q 67 _ rfl rfl rfl (QOp_lss _ _ _ _ _ _ _ rfl rfl rfl) ?_
          refine AOps_nil ?_
          refine ACode_cond _ rfl (fun hb34 => ?_) (fun hb34 => ?_)
          · have h := iteT hb34 h
            refine ACode_seq (ACode_region ?_)
            refine AOps_q 4 _ rfl rfl rfl (QOp_assign _ _ rfl rfl) ?_
            refine AOps_nil ?_
            refine ACode_ret ?_
            cases h
            exact ⟨_, _, fun r a w h => ⟨r, h⟩, _, _, [], _, (.cons (ResV_tmp _ _ rfl) .nil), rfl, rfl, rfl, rfl, rfl⟩
          · have h := iteF hb34 h
            refine ACode_skip ?_
            refine ACode_seq ?_
            refine ACode_seq (ACode_region ?_)
            refine AOps_q 68 _ rfl rfl rfl (QOp_move _ _ rfl rfl) ?_
            refine AOps_q 69 _ rfl rfl rfl (QOp_move _ _ rfl rfl) ?_
            refine AOps_q 70 _ rfl rfl rfl (QOp_neq _ _ _ _ _ _ _ rfl rfl rfl) ?_
            refine AOps_nil ?_
            refine ACode_cond _ rfl (fun hb35 => ?_) (fun hb35 => ?_)
            · have h := iteT hb35 h
              refine ACode_seq (ACode_region ?_)
              refine AOps_q 4 _ rfl rfl rfl (QOp_assign _ _ rfl rfl) ?_
              refine AOps_nil ?_
              refine ACode_ret ?_
              cases h
              exact ⟨_, _, fun r a w h => ⟨r, h⟩, _, _, [], _, (.cons (ResV_tmp _ _ rfl) .nil), rfl, rfl, rfl, rfl, rfl⟩
            · have h := iteF hb35 h
              refine ACode_skip ?_
              refine ACode_seq (ACode_region ?_)
              refine AOps_q 4 _ rfl rfl rfl (QOp_assign _ _ rfl rfl) ?_
              refine AOps_nil ?_
              refine ACode_ret ?_
              cases h
              exact ⟨_, _, fun r a w h => ⟨r, h⟩, _, _, [], _, (.cons (ResV_tmp _ _ rfl) .nil), rfl, rfl, rfl, rfl, rfl⟩
  | some l5 =>
    intro h
    rintro _ _ ⟨rfl, rfl⟩
    refine ⟨(allc (fun _ _ => trivial) (fun _ h => nomatch h)), (allc (trivial) (allc (trivial) (fun _ h => nomatch h))), AOps_as 24 (v' := .tup [.vec 0 0, iV r4.2]) (H' := [.vec 0 (rowsD l5)]) rfl rfl ?_⟩
    refine AOps_q 20 _ rfl rfl rfl (QOp_move _ _ rfl rfl) ?_
    refine AOps_q 25 _ rfl rfl rfl (QOp_extract _ _ _ _ rfl rfl rfl) ?_
    refine AOps_q 26 _ rfl rfl rfl (QOp_extract _ _ _ _ rfl rfl rfl) ?_
    refine AOps_q 7 _ rfl rfl rfl (QOp_assign _ _ rfl rfl) ?_
    refine AOps_q 8 _ rfl rfl rfl (QOp_assign _ _ rfl rfl) ?_
    refine AOps_nil ?_
    obtain ⟨os40, hss40, hks40⟩ := bindO h
    clear h
    refine ACode_seqJ (fun E' H' => ∃ s40 : Unit, os40 = .inl s40 ∧ Weak 71 G E' H' [(1, iV p1), (2, .d (.pv (colD p0) 0)), (5, .d (.sl none (rowsD r2.1))), (6, iV r2.2), (7, .vec 0 0)] [.vec 0 (rowsD l5)]) ?_ ?_
    · have h := hss40
      clear hss40
      obtain ⟨s38, hss38, hks38⟩ := bindO h
      clear h
      refine ACode_seqJ (fun E' H' => Weak 71 G E' H' [(1, iV p1), (2, .d (.pv (colD p0) 0)), (5, .d (.sl none (rowsD r2.1))), (6, iV r2.2), (7, .vec 0 0), (35, bV s38)] [.vec 0 (rowsD l5)]) ?_ ?_
      · have h := hss38
        clear hss38
        refine (ACode_region ?_)
        refine AOps_q 27 _ rfl rfl rfl (QOp_move _ _ rfl rfl) ?_
        refine AOps_q 28 _ rfl rfl rfl (QOp_move _ _ rfl rfl) ?_
        obtain ⟨r36, hr36, h⟩ := bindO h
        refine AOps_callL [] 29 _ _ _ _ _ _ _ _ _ _ rfl rfl rfl rfl rfl rfl rfl Try.call10 rfl (nodupB_sound _ rfl) rfl rfl rfl (laws_eqInt64SS_ac k l5 r2.1 _ hr36) ?_
        rintro _ _ ⟨rfl, rfl⟩
        refine ⟨(fun _ h => nomatch h), (allc (flat_s _) (fun _ h => nomatch h)), AOps_as 29 (v' := bV r36) (H' := [.vec 0 (rowsD l5)]) rfl rfl ?_⟩
        refine AOps_q 30 _ rfl rfl rfl (QOp_not _ _ _ rfl rfl) ?_
        refine AOps_q 31 _ rfl rfl rfl (QOp_move _ _ rfl rfl) ?_
        refine AOps_case 31 _ rfl (fun hb37 => ?_) (fun hb37 => ?_)
        · have h := iteT hb37 h
          refine AOps_skip 32 rfl rfl rfl ?_
          refine AOps_skip 33 rfl rfl rfl ?_
          refine AOps_skip 34 rfl rfl rfl ?_
          refine AOps_q 35 _ rfl rfl rfl (QOp_pick_t _ _ _ _ rfl rfl rfl) ?_
          refine AOps_nil ?_
          cases h
          exact Weak_keep 0 hm [1, 2, 5, 6, 7, 35] [0] _ _ rfl rfl rfl
        · have h := iteF hb37 h
          refine AOps_q 32 _ rfl rfl rfl (QOp_move _ _ rfl rfl) ?_
          refine AOps_q 33 _ rfl rfl rfl (QOp_move _ _ rfl rfl) ?_
          refine AOps_q 34 _ rfl rfl rfl (QOp_neq _ _ _ _ _ _ _ rfl rfl rfl) ?_
          refine AOps_q 35 _ rfl rfl rfl (QOp_pick_f _ _ _ _ rfl rfl rfl) ?_
          refine AOps_nil ?_
          cases h
          exact Weak_keep 0 hm [1, 2, 5, 6, 7, 35] [0] _ _ rfl rfl rfl
      intro E' H' hw
      refine ACode_weak hw ?_
      have h := hks38
      refine ACode_cond _ rfl (fun hb39 => ?_) (fun hb39 => ?_)
      · have h := iteT hb39 h
        refine ACode_seq (ACode_region ?_)
        refine AOps_q 4 _ rfl rfl rfl (QOp_assign _ _ rfl rfl) ?_
        refine AOps_nil ?_
        refine ACode_ret ?_
        cases h
        have h := hks40
        cases h
        exact ⟨_, _, fun r a w h => ⟨r, h⟩, _, _, [], _, (.cons (ResV_tmp _ _ rfl) .nil), rfl, rfl, rfl, rfl, rfl⟩
      · have h := iteF hb39 h
        refine ACode_skip ?_
        cases h
        exact ⟨_, rfl, Weak_keep 0 hm [1, 2, 5, 6, 7] [0] _ _ rfl rfl rfl⟩
    rintro E' H' ⟨s40, rfl, hw⟩
    refine ACode_weak hw ?_
    have h := hks40
    refine ACode_seq (ACode_region ?_)
    refine AOps_q 9 _ rfl rfl rfl (QOp_assign _ _ rfl rfl) ?_
    refine AOps_nil ?_
    refine ACode_seq (ACode_region ?_)
    refine AOps_q 36 _ rfl rfl rfl (QOp_move _ _ rfl rfl) ?_
    refine AOps_q 37 _ rfl rfl rfl (QOp_move _ _ rfl rfl) ?_
    obtain ⟨r41, hr41, h⟩ := bindO h
    refine AOps_callL [] 38 _ _ _ _ _ _ _ _ _ _ rfl rfl rfl rfl rfl rfl rfl Try.call11 rfl (nodupB_sound _ rfl) rfl rfl rfl (laws_markInt64SS_ac k l5 1 _ hr41) ?_
    rintro _ _ ⟨rfl, rfl⟩
    refine ⟨(fun _ h => nomatch h), (allc (flat_s _) (fun _ h => nomatch h)), AOps_as 38 (v' := iV r41) (H' := [.vec 0 (rowsD l5)]) rfl rfl ?_⟩
    refine AOps_q 9 _ rfl rfl rfl (QOp_assign _ _ rfl rfl) ?_
    refine AOps_nil ?_
    refine ACode_seq (ACode_region ?_)
    refine AOps_q 10 _ rfl rfl rfl (QOp_assign _ _ rfl rfl) ?_
    refine AOps_nil ?_
    refine ACode_seq (ACode_region ?_)
    refine AOps_q 39 _ rfl rfl rfl (QOp_move _ _ rfl rfl) ?_
    refine AOps_q 40 _ rfl rfl rfl (QOp_move _ _ rfl rfl) ?_
    obtain ⟨r42, hr42, h⟩ := bindO h
    refine AOps_callL [] 41 _ _ _ _ _ _ _ _ _ _ rfl rfl rfl rfl rfl rfl rfl Try.call12 rfl (nodupB_sound _ rfl) rfl rfl rfl (laws_heldInt64SS_ac k l5 1 _ hr42) ?_
    rintro _ _ ⟨rfl, rfl⟩
    refine ⟨(fun _ h => nomatch h), (allc (flat_s _) (fun _ h => nomatch h)), AOps_as 41 (v' := iV r42) (H' := [.vec 0 (rowsD l5)]) rfl rfl ?_⟩
    refine AOps_q 10 _ rfl rfl rfl (QOp_assign _ _ rfl rfl) ?_
    refine AOps_nil ?_
    refine ACode_seq ?_
    refine ACode_seq (ACode_region ?_)
    refine AOps_q 42 _ rfl rfl rfl (QOp_move _ _ rfl rfl) ?_
    refine AOps_q 43 _ rfl rfl rfl (QOp_lss _ _ _ _ _ _ _ rfl rfl rfl) ?_
    refine AOps_nil ?_
    refine ACode_cond _ rfl (fun hb43 => ?_) (fun hb43 => ?_)
    · have h := iteT hb43 h
      refine ACode_seq (ACode_region ?_)
      refine AOps_q 4 _ rfl rfl rfl (QOp_assign _ _ rfl rfl) ?_
      refine AOps_nil ?_
      refine ACode_ret ?_
      cases h
      exact ⟨_, _, fun r a w h => ⟨r, h⟩, _, _, [], _, (.cons (ResV_tmp _ _ rfl) .nil), rfl, rfl, rfl, rfl, rfl⟩
    · have h := iteF hb43 h
      refine ACode_skip ?_
      refine ACode_seq ?_
      refine ACode_seq (ACode_region ?_)
      refine AOps_q 44 _ rfl rfl rfl (QOp_move _ _ rfl rfl) ?_
      refine AOps_q 45 _ rfl rfl rfl (QOp_move _ _ rfl rfl) ?_
      refine AOps_q 46 _ rfl rfl rfl (QOp_neq _ _ _ _ _ _ _ rfl rfl rfl) ?_
      refine AOps_nil ?_
      refine ACode_cond _ rfl (fun hb44 => ?_) (fun hb44 => ?_)
      · have h := iteT hb44 h
        refine ACode_seq (ACode_region ?_)
        refine AOps_q 4 _ rfl rfl rfl (QOp_assign _ _ rfl rfl) ?_
        refine AOps_nil ?_
        refine ACode_ret ?_
        cases h
        exact ⟨_, _, fun r a w h => ⟨r, h⟩, _, _, [], _, (.cons (ResV_tmp _ _ rfl) .nil), rfl, rfl, rfl, rfl, rfl⟩
      · have h := iteF hb44 h
        refine ACode_skip ?_
        refine ACode_seq (ACode_region ?_)
        refine AOps_q 48 _ rfl rfl rfl (QOp_loadN_pv _ _ _ _ _ _ rfl Try.isAgg24 Try.sizeOf24 rfl (colD_all _) (colD_length _)) ?_
        obtain ⟨r45, hr45, h⟩ := bindO h
        refine AOps_call [] 49 _ _ _ _ _ _ _ _ _ _ rfl rfl rfl rfl rfl rfl rfl Try.call8 rfl (nodupB_sound _ rfl) rfl rfl rfl (laws_toColouring_ac k p0 _ hr45) ?_
        rintro _ _ ⟨rfl, rfl⟩
        refine ⟨(fun _ h => nomatch h), (allc (trivial) (fun _ h => nomatch h)), AOps_as 49 (v' := .d (.agg (colD r45))) (H' := [.vec 0 (rowsD l5)]) rfl rfl ?_⟩
        refine AOps_q 50 _ rfl rfl rfl (QOp_move _ _ rfl rfl) ?_
        obtain ⟨r46, hr46, h⟩ := bindO h
        refine AOps_call [] 51 _ _ _ _ _ _ _ _ _ _ rfl rfl rfl rfl rfl rfl rfl Try.call9 rfl (nodupB_sound _ rfl) rfl rfl rfl (impl_ComponentsOf_ac k r45 p1 _ hr46) ?_
        revert h
        cases hx48 : r46.1 with
        | none =>
          intro h
          rintro _ _ ⟨rfl, rfl⟩
          refine ⟨(fun _ h => nomatch h), (allc (trivial) (allc (trivial) (fun _ h => nomatch h))), AOps_as 51 (v' := .tup [.d (.sl (some true) []), iV r46.2]) (H' := [.vec 0 (rowsD l5)]) rfl rfl ?_⟩
          refine AOps_q 47 _ rfl rfl rfl (QOp_move _ _ rfl rfl) ?_
          refine AOps_q 52 _ rfl rfl rfl (QOp_extract _ _ _ _ rfl rfl rfl) ?_
          refine AOps_q 53 _ rfl rfl rfl (QOp_extract _ _ _ _ rfl rfl rfl) ?_
          refine AOps_q 11 _ rfl rfl rfl (QOp_assign _ _ rfl rfl) ?_
          refine AOps_q 12 _ rfl rfl rfl (QOp_assign _ _ rfl rfl) ?_
          refine AOps_nil ?_
          obtain ⟨os53, hss53, hks53⟩ := bindO h
          clear h
          refine ACode_seqJ (fun E' H' => ∃ s53 : Unit, os53 = .inl s53 ∧ Weak 71 G E' H' [(7, .vec 0 0), (9, iV r41)] [.vec 0 (rowsD l5)]) ?_ ?_
          · have h := hss53
            clear hss53
            obtain ⟨s51, hss51, hks51⟩ := bindO h
            clear h
            refine ACode_seqJ (fun E' H' => Weak 71 G E' H' [(7, .vec 0 0), (9, iV r41), (62, bV s51)] [.vec 0 (rowsD l5)]) ?_ ?_
            · have h := hss51
              clear hss51
              refine (ACode_region ?_)
              refine AOps_q 54 _ rfl rfl rfl (QOp_move _ _ rfl rfl) ?_
              refine AOps_q 55 _ rfl rfl rfl (QOp_move _ _ rfl rfl) ?_
              obtain ⟨r49, hr49, h⟩ := bindO h
              refine AOps_call [] 56 _ _ _ _ _ _ _ _ _ _ rfl rfl rfl rfl rfl rfl rfl Try.call10 rfl (nodupB_sound _ rfl) rfl rfl rfl (laws_eqInt64SS_ac k ([]) r2.1 _ hr49) ?_
              rintro _ _ ⟨rfl, rfl⟩
              refine ⟨(fun _ h => nomatch h), (allc (trivial) (fun _ h => nomatch h)), AOps_as 56 (v' := bV r49) (H' := [.vec 0 (rowsD l5)]) rfl rfl ?_⟩
              refine AOps_q 57 _ rfl rfl rfl (QOp_not _ _ _ rfl rfl) ?_
              refine AOps_q 58 _ rfl rfl rfl (QOp_move _ _ rfl rfl) ?_
              refine AOps_case 58 _ rfl (fun hb50 => ?_) (fun hb50 => ?_)
              · have h := iteT hb50 h
                refine AOps_skip 59 rfl rfl rfl ?_
                refine AOps_skip 60 rfl rfl rfl ?_
                refine AOps_skip 61 rfl rfl rfl ?_
                refine AOps_q 62 _ rfl rfl rfl (QOp_pick_t _ _ _ _ rfl rfl rfl) ?_
                refine AOps_nil ?_
                cases h
                exact Weak_keep 0 hm [7, 9, 62] [0] _ _ rfl rfl rfl
              · have h := iteF hb50 h
                refine AOps_q 59 _ rfl rfl rfl (QOp_move _ _ rfl rfl) ?_
                refine AOps_q 60 _ rfl rfl rfl (QOp_move _ _ rfl rfl) ?_
                refine AOps_q 61 _ rfl rfl rfl (QOp_neq _ _ _ _ _ _ _ rfl rfl rfl) ?_
                refine AOps_q 62 _ rfl rfl rfl (QOp_pick_f _ _ _ _ rfl rfl rfl) ?_
                refine AOps_nil ?_
                cases h
                exact Weak_keep 0 hm [7, 9, 62] [0] _ _ rfl rfl rfl
            intro E' H' hw
            refine ACode_weak hw ?_
            have h := hks51
            refine ACode_cond _ rfl (fun hb52 => ?_) (fun hb52 => ?_)
            · have h := iteT hb52 h
              refine ACode_seq (ACode_region ?_)
              refine AOps_q 4 _ rfl rfl rfl (QOp_assign _ _ rfl rfl) ?_
              refine AOps_nil ?_
              refine ACode_ret ?_
              cases h
              have h := hks53
              cases h
              exact ⟨_, _, fun r a w h => ⟨r, h⟩, _, _, [], _, (.cons (ResV_tmp _ _ rfl) .nil), rfl, rfl, rfl, rfl, rfl⟩
            · have h := iteF hb52 h
              refine ACode_skip ?_
              cases h
              exact ⟨_, rfl, Weak_keep 0 hm [7, 9] [0] _ _ rfl rfl rfl⟩
          rintro E' H' ⟨s53, rfl, hw⟩
          refine ACode_weak hw ?_
          have h := hks53
          refine ACode_seq (ACode_region ?_)
          refine AOps_q 10 _ rfl rfl rfl (QOp_assign _ _ rfl rfl) ?_
          refine AOps_nil ?_
          refine ACode_seq (ACode_region ?_)
          refine AOps_q 63 _ rfl rfl rfl (QOp_move _ _ rfl rfl) ?_
          refine AOps_q 64 _ rfl rfl rfl (QOp_move _ _ rfl rfl) ?_
          obtain ⟨r54, hr54, h⟩ := bindO h
          refine AOps_callL [] 65 _ _ _ _ _ _ _ _ _ _ rfl rfl rfl rfl rfl rfl rfl Try.call12 rfl (nodupB_sound _ rfl) rfl rfl rfl (laws_heldInt64SS_ac k l5 1 _ hr54) ?_
          rintro _ _ ⟨rfl, rfl⟩
          refine ⟨(fun _ h => nomatch h), (allc (flat_s _) (fun _ h => nomatch h)), AOps_as 65 (v' := iV r54) (H' := [.vec 0 (rowsD l5)]) rfl rfl ?_⟩
          refine AOps_q 10 _ rfl rfl rfl (QOp_assign _ _ rfl rfl) ?_
          refine AOps_nil ?_
          refine ACode_seq ?_
          refine ACode_seq (ACode_region ?_)
          refine AOps_q 66 _ rfl rfl rfl (QOp_move _ _ rfl rfl) ?_
          refine AOps_q 67 _ rfl rfl rfl (QOp_lss _ _ _ _ _ _ _ rfl rfl rfl) ?_
          refine AOps_nil ?_
          refine ACode_cond _ rfl (fun hb55 => ?_) (fun hb55 => ?_)
          · have h := iteT hb55 h
            refine ACode_seq (ACode_region ?_)
            refine AOps_q 4 _ rfl rfl rfl (QOp_assign _ _ rfl rfl) ?_
            refine AOps_nil ?_
            refine ACode_ret ?_
            cases h
            exact ⟨_, _, fun r a w h => ⟨r, h⟩, _, _, [], _, (.cons (ResV_tmp _ _ rfl) .nil), rfl, rfl, rfl, rfl, rfl⟩
          · have h := iteF hb55 h
            refine ACode_skip ?_
            refine ACode_seq ?_
            refine ACode_seq (ACode_region ?_)
            refine AOps_q 68 _ rfl rfl rfl (QOp_move _ _ rfl rfl) ?_
            refine AOps_q 69 _ rfl rfl rfl (QOp_move _ _ rfl rfl) ?_
            refine AOps_q 70 _ rfl rfl rfl (QOp_neq _ _ _ _ _ _ _ rfl rfl rfl) ?_
            refine AOps_nil ?_
            refine ACode_cond _ rfl (fun hb56 => ?_) (fun hb56 => ?_)
            · have h := iteT hb56 h
              refine ACode_seq (ACode_region ?_)
              refine AOps_q 4 _ rfl rfl rfl (QOp_assign _ _ rfl rfl) ?_
              refine AOps_nil ?_
              refine ACode_ret ?_
              cases h
              exact ⟨_, _, fun r a w h => ⟨r, h⟩, _, _, [], _, (.cons (ResV_tmp _ _ rfl) .nil), rfl, rfl, rfl, rfl, rfl⟩
            · have h := iteF hb56 h
              refine ACode_skip ?_
              refine ACode_seq (ACode_region ?_)
              refine AOps_q 4 _ rfl rfl rfl (QOp_assign _ _ rfl rfl) ?_
              refine AOps_nil ?_
              refine ACode_ret ?_
              cases h
              exact ⟨_, _, fun r a w h => ⟨r, h⟩, _, _, [], _, (.cons (ResV_tmp _ _ rfl) .nil), rfl, rfl, rfl, rfl, rfl⟩
        | some l47 =>
          intro h
          rintro _ _ ⟨rfl, rfl⟩
          refine ⟨(allc (fun _ _ => trivial) (fun _ h => nomatch h)), (allc (trivial) (allc (trivial) (fun _ h => nomatch h))), AOps_as 51 (v' := .tup [.vec 1 0, iV r46.2]) (H' := [.vec 0 (rowsD l5), .vec 0 (rowsD l47)]) rfl rfl ?_⟩
          refine AOps_q 47 _ rfl rfl rfl (QOp_move _ _ rfl rfl) ?_
          refine AOps_q 52 _ rfl rfl rfl (QOp_extract _ _ _ _ rfl rfl rfl) ?_
          refine AOps_q 53 _ rfl rfl rfl (QOp_extract _ _ _ _ rfl rfl rfl) ?_
          refine AOps_q 11 _ rfl rfl rfl (QOp_assign _ _ rfl rfl) ?_
          refine AOps_q 12 _ rfl rfl rfl (QOp_assign _ _ rfl rfl) ?_
          refine AOps_nil ?_
          obtain ⟨os61, hss61, hks61⟩ := bindO h
          clear h
          refine ACode_seqJ (fun E' H' => ∃ s61 : Unit, os61 = .inl s61 ∧ Weak 71 G E' H' [(7, .vec 0 0), (9, iV r41)] [.vec 0 (rowsD l5)]) ?_ ?_
          · have h := hss61
            clear hss61
            obtain ⟨s59, hss59, hks59⟩ := bindO h
            clear h
            refine ACode_seqJ (fun E' H' => Weak 71 G E' H' [(7, .vec 0 0), (9, iV r41), (62, bV s59)] [.vec 0 (rowsD l5)]) ?_ ?_
            · have h := hss59
              clear hss59
              refine (ACode_region ?_)
              refine AOps_q 54 _ rfl rfl rfl (QOp_move _ _ rfl rfl) ?_
              refine AOps_q 55 _ rfl rfl rfl (QOp_move _ _ rfl rfl) ?_
              obtain ⟨r57, hr57, h⟩ := bindO h
              refine AOps_callL [] 56 _ _ _ _ _ _ _ _ _ _ rfl rfl rfl rfl rfl rfl rfl Try.call10 rfl (nodupB_sound _ rfl) rfl rfl rfl (laws_eqInt64SS_ac k l47 r2.1 _ hr57) ?_
              rintro _ _ ⟨rfl, rfl⟩
              refine ⟨(fun _ h => nomatch h), (allc (flat_s _) (fun _ h => nomatch h)), AOps_as 56 (v' := bV r57) (H' := [.vec 0 (rowsD l5), .vec 0 (rowsD l47)]) rfl rfl ?_⟩
              refine AOps_q 57 _ rfl rfl rfl (QOp_not _ _ _ rfl rfl) ?_
              refine AOps_q 58 _ rfl rfl rfl (QOp_move _ _ rfl rfl) ?_
              refine AOps_case 58 _ rfl (fun hb58 => ?_) (fun hb58 => ?_)
              · have h := iteT hb58 h
                refine AOps_skip 59 rfl rfl rfl ?_
                refine AOps_skip 60 rfl rfl rfl ?_
                refine AOps_skip 61 rfl rfl rfl ?_
                refine AOps_q 62 _ rfl rfl rfl (QOp_pick_t _ _ _ _ rfl rfl rfl) ?_
                refine AOps_nil ?_
                cases h
                exact Weak_keep 0 hm [7, 9, 62] [0] _ _ rfl rfl rfl
              · have h := iteF hb58 h
                refine AOps_q 59 _ rfl rfl rfl (QOp_move _ _ rfl rfl) ?_
                refine AOps_q 60 _ rfl rfl rfl (QOp_move _ _ rfl rfl) ?_
                refine AOps_q 61 _ rfl rfl rfl (QOp_neq _ _ _ _ _ _ _ rfl rfl rfl) ?_
                refine AOps_q 62 _ rfl rfl rfl (QOp_pick_f _ _ _ _ rfl rfl rfl) ?_
                refine AOps_nil ?_
                cases h
                exact Weak_keep 0 hm [7, 9, 62] [0] _ _ rfl rfl rfl
            intro E' H' hw
            refine ACode_weak hw ?_
            have h := hks59
            refine ACode_cond _ rfl (fun hb60 => ?_) (fun hb60 => ?_)
            · have h := iteT hb60 h
              refine ACode_seq (ACode_region ?_)
              refine AOps_q 4 _ rfl rfl rfl (QOp_assign _ _ rfl rfl) ?_
              refine AOps_nil ?_
              refine ACode_ret ?_
              cases h
              have h := hks61
              cases h
              exact ⟨_, _, fun r a w h => ⟨r, h⟩, _, _, [], _, (.cons (ResV_tmp _ _ rfl) .nil), rfl, rfl, rfl, rfl, rfl⟩
            · have h := iteF hb60 h
              refine ACode_skip ?_
              cases h
              exact ⟨_, rfl, Weak_keep 0 hm [7, 9] [0] _ _ rfl rfl rfl⟩
          rintro E' H' ⟨s61, rfl, hw⟩
          refine ACode_weak hw ?_
          have h := hks61
          refine ACode_seq (ACode_region ?_)
          refine AOps_q 10 _ rfl rfl rfl (QOp_assign _ _ rfl rfl) ?_
          refine AOps_nil ?_
          refine ACode_seq (ACode_region ?_)
          refine AOps_q 63 _ rfl rfl rfl (QOp_move _ _ rfl rfl) ?_
          refine AOps_q 64 _ rfl rfl rfl (QOp_move _ _ rfl rfl) ?_
          obtain ⟨r62, hr62, h⟩ := bindO h
          refine AOps_callL [] 65 _ _ _ _ _ _ _ _ _ _ rfl rfl rfl rfl rfl rfl rfl Try.call12 rfl (nodupB_sound _ rfl) rfl rfl rfl (laws_heldInt64SS_ac k l5 1 _ hr62) ?_
          rintro _ _ ⟨rfl, rfl⟩
          refine ⟨(fun _ h => nomatch h), (allc (flat_s _) (fun _ h => nomatch h)), AOps_as 65 (v' := iV r62) (H' := [.vec 0 (rowsD l5)]) rfl rfl ?_⟩
          refine AOps_q 10 _ rfl rfl rfl (QOp_assign _ _ rfl rfl) ?_
          refine AOps_nil ?_
          refine ACode_seq ?_
          refine ACode_seq (ACode_region ?_)
          refine AOps_q 66 _ rfl rfl rfl (QOp_move _ _ rfl rfl) ?_
          refine AOps_q 67 _ rfl rfl rfl (QOp_lss _ _ _ _ _ _ _ rfl rfl rfl) ?_
          refine AOps_nil ?_
          refine ACode_cond _ rfl (fun hb63 => ?_) (fun hb63 => ?_)
          · have h := iteT hb63 h
            refine ACode_seq (ACode_region ?_)
            refine AOps_q 4 _ rfl rfl rfl (QOp_assign _ _ rfl rfl) ?_
            refine AOps_nil ?_
            refine ACode_ret ?_
            cases h
            exact ⟨_, _, fun r a w h => ⟨r, h⟩, _, _, [], _, (.cons (ResV_tmp _ _ rfl) .nil), rfl, rfl, rfl, rfl, rfl⟩
          · have h := iteF hb63 h
            refine ACode_skip ?_
            refine ACode_seq ?_
            refine ACode_seq (ACode_region ?_)
            refine AOps_q 68 _ rfl rfl rfl (QOp_move _ _ rfl rfl) ?_
            refine AOps_q 69 _ rfl rfl rfl (QOp_move _ _ rfl rfl) ?_
            refine AOps_q 70 _ rfl rfl rfl (QOp_neq _ _ _ _ _ _ _ rfl rfl rfl) ?_
            refine AOps_nil ?_
            refine ACode_cond _ rfl (fun hb64 => ?_) (fun hb64 => ?_)
            · have h := iteT hb64 h
              refine ACode_seq (ACode_region ?_)
              refine AOps_q 4 _ rfl rfl rfl (QOp_assign _ _ rfl rfl) ?_
              refine AOps_nil ?_
              refine ACode_ret ?_
              cases h
              exact ⟨_, _, fun r a w h => ⟨r, h⟩, _, _, [], _, (.cons (ResV_tmp _ _ rfl) .nil), rfl, rfl, rfl, rfl, rfl⟩
            · have h := iteF hb64 h
              refine ACode_skip ?_
              refine ACode_seq (ACode_region ?_)
              refine AOps_q 4 _ rfl rfl rfl (QOp_assign _ _ rfl rfl) ?_
              refine AOps_nil ?_
              refine ACode_ret ?_
              cases h
              exact ⟨_, _, fun r a w h => ⟨r, h⟩, _, _, [], _, (.cons (ResV_tmp _ _ rfl) .nil), rfl, rfl, rfl, rfl, rfl⟩

-- loop.example/g01362/laws.markInt64S
def laws_markInt64S_l0 : Nat → Int → Int → (List Int) → Option (Int × List Int)
  | 0, _, _, _ => none
  | k0 + 1, x1, x2, x3 => (if decide (x2 < (x3.length : Int)) then (if 0 ≤ x2 ∧ x2 < (x3.length : Int) then laws_markInt64S_l0 k0 (w64 (x1 + 1)) (w64 (x2 + 1)) (x3.set x2.toNat x1) else none) else some (x1, x3))
def laws_markInt64S (k : Nat) (p0 : List Int) (p1 : Int) : Option (Int × List Int) :=
  (laws_markInt64S_l0 k p1 0 p0 : Option (Int × List Int)).bind fun s6 => some (s6.1, s6.2)
set_option maxRecDepth 100000 in
theorem laws_markInt64S_ac (k : Nat) (p0 : List Int) (p1 : Int) (r : Int × List Int) (h : laws_markInt64S k p0 p1 = some r) : AC Try.prog 23 [.vec 0 0, iV p1] [.vec 0 (intsD p0)] (fun res H' => res = [iV r.1] ∧ H' = [.vec 0 (intsD r.2)]) := by
  refine AC_of_body true Try.func23 rfl Try.ntmps23 (rvs := [.tmp 4]) rfl rfl (fun G hG => ?_)
  have hm : G.H.length = 1 := by rw [hG]; rfl
  have hz : zeroG G.H = true := by rw [hG]; rfl
  unfold laws_markInt64S at h
  refine ACode_seq (ACode_region ?_)
  refine AOps_q 4 _ rfl rfl rfl (QOp_assign _ _ rfl rfl) ?_
  refine AOps_nil ?_
  obtain ⟨s6, hss6, hks6⟩ := bindO h
  clear h
  refine ACode_seqJ (fun E' H' => Weak 19 G E' H' [(1, iV s6.1)] [.vec 0 (intsD s6.2)]) ?_ ?_
  · have h := hss6
    clear hss6
    refine ACode_seq (ACode_region ?_)
    refine AOps_q 5 _ rfl rfl rfl (QOp_assign _ _ rfl rfl) ?_
    refine AOps_nil ?_
    refine ACode_block ?_
    refine ACode_loopW (fun k0 E H => ∃ (x1 : Int) (x2 : Int) (x3 : List Int), E = [(0, .vec 0 0), (1, iV x1), (5, iV x2)] ∧ H = [.vec 0 (intsD x3)] ∧ laws_markInt64S_l0 k0 x1 x2 x3 = some s6) k _ _ (Weak_keep 1 hm [0, 1, 5] [] _ _ rfl rfl rfl) ⟨_, _, _, rfl, rfl, h⟩ ?_
    clear h
    rintro k0 E H ⟨x1, x2, x3, rfl, rfl, h⟩
    cases k0 with
    | zero => cases (show (none : Option (Int × List Int)) = some _ from h)
    | succ k0 =>
      rw [laws_markInt64S_l0] at h
      refine ACode_seq ?_
      refine ACode_seq (ACode_region ?_)
      refine AOps_q 6 _ rfl rfl rfl (QOp_move _ _ rfl rfl) ?_
      refine AOps_q 7 _ rfl rfl rfl (QOp_move _ _ rfl rfl) ?_
      refine AOps_q 8 _ rfl rfl rfl (QOp_len_vec _ _ _ _ _ _ _ _ (intsD_length _) rfl rfl rfl rfl Try.underlying40 rfl rfl) ?_
      refine AOps_q 9 _ rfl rfl rfl (QOp_lss _ _ _ _ _ _ _ rfl rfl rfl) ?_
      refine AOps_nil ?_
      refine ACode_cond _ rfl (fun hb4 => ?_) (fun hb4 => ?_)
      · have h := iteT hb4 h
        refine ACode_skip ?_
        refine ACode_seq ?_
        refine ACode_block ?_
        refine ACode_seq (ACode_region ?_)
        refine AOps_q 12 _ rfl rfl rfl (QOp_move _ _ rfl rfl) ?_
        refine AOps_q 13 _ rfl rfl rfl (QOp_move _ _ rfl rfl) ?_
        refine AOps_q 14 _ rfl rfl rfl (QOp_move _ _ rfl rfl) ?_
        obtain ⟨hc5, h⟩ := guardO h
        refine AOps_q 15 _ rfl rfl rfl (QOp_indexAddr_vec _ _ _ _ _ _ _ _ _ rfl Try.underlying40 Try.sizeOf2 hc5.1 (by rw [intsD_length]; exact hc5.2) rfl rfl rfl) ?_
        refine AOps_store_eptr _ _ _ _ _ _ (intsD x3) _ rfl rfl rfl rfl rfl rfl rfl Try.sizeOf2 (by rw [intsD_length]; omega) ?_
        rw [intsD_set]
        refine AOps_nil ?_
        refine (ACode_region ?_)
        refine AOps_q 16 _ rfl rfl rfl (QOp_move _ _ rfl rfl) ?_
        refine AOps_q 17 _ rfl rfl rfl (QOp_add _ _ _ _ _ _ _ rfl rfl rfl) ?_
        refine AOps_q 1 _ rfl rfl rfl (QOp_assign _ _ rfl rfl) ?_
        refine AOps_nil ?_
        refine (ACode_region ?_)
        refine AOps_q 10 _ rfl rfl rfl (QOp_move _ _ rfl rfl) ?_
        refine AOps_q 11 _ rfl rfl rfl (QOp_add _ _ _ _ _ _ _ rfl rfl rfl) ?_
        refine AOps_q 5 _ rfl rfl rfl (QOp_assign _ _ rfl rfl) ?_
        refine AOps_nil ?_
        exact ⟨k0, _, _, Nat.lt_succ_self _, Weak_keep 1 hm [0, 1, 5] [] _ _ rfl rfl rfl, _, _, _, rfl, rfl, h⟩
      · have h := iteF hb4 h
        refine ACode_exit ?_
        cases h
        exact Weak_keep 1 hm [1] [] _ _ rfl rfl rfl
  intro E' H' hw
  refine ACode_weak hw ?_
  have h := hks6
  refine ACode_seq (ACode_region ?_)
  refine AOps_q 18 _ rfl rfl rfl (QOp_move _ _ rfl rfl) ?_
  refine AOps_q 4 _ rfl rfl rfl (QOp_assign _ _ rfl rfl) ?_
  refine AOps_nil ?_
  refine ACode_ret ?_
  cases h
  exact ⟨_, _, fun r a w h => ⟨r, h⟩, _, _, [], _, (.cons (ResV_tmp _ _ rfl) .nil), rfl, rfl, rfl, rfl, rfl⟩

end Go.Proofs.Ytmmiokljmfkoiaa
