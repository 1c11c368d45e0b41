/- Plain functions of the program and that the program computes them: printed by the own tool gen.py. No conditions. -/
import Derived.Test.YtmmiokljmfkoiaaArr
import Derived.Test.YtmmiokljmfkoiaaAb18
import Derived.Test.YtmmiokljmfkoiaaChain
set_option linter.unusedVariables false
set_option linter.unusedSimpArgs false
namespace Go.Proofs.Ytmmiokljmfkoiaa
open Go Go.RowKit Ab

-- loop.example/g01362/laws.szInt64S
def laws_szInt64S (p0 : List Int) (p1 : Int) : Int :=
  (if decide (w64 (p1 - (p0.length : Int)) < 0) then (-1) else w64 (p1 - (p0.length : Int)))
set_option maxRecDepth 100000 in
theorem laws_szInt64S_ac (p0 : List Int) (p1 : Int) : AC Try.prog 32 [.d (.sl none (intsD p0)), iV p1] [] (fun res H' => res = [iV (laws_szInt64S p0 p1)] ∧ H' = []) := by
  refine AC_of_body true Try.func32 rfl Try.ntmps32 (rvs := [.tmp 4]) rfl rfl (fun G hG => ?_)
  have hm : G.H.length = 0 := by rw [hG]; rfl
  have hz : zeroG G.H = true := by rw [hG]; rfl
  obtain ⟨r, h⟩ : ∃ r, laws_szInt64S p0 p1 = r := ⟨_, rfl⟩
  rw [h]
  unfold laws_szInt64S at h
  refine ACode_seq (ACode_region ?_)
  refine AOps_q 4 _ rfl rfl rfl (QOp_assign _ _ rfl rfl) ?_
  refine AOps_nil ?_
  refine ACode_seq (ACode_region ?_)
  refine AOps_q 5 _ rfl rfl rfl (QOp_move _ _ rfl rfl) ?_
  refine AOps_q 6 _ rfl rfl rfl (QOp_move _ _ rfl rfl) ?_
  refine AOps_q 7 _ rfl rfl rfl (QOp_len_sl _ _ _ _ _ _ _ (intsD_length _) rfl rfl rfl rfl Try.underlying40 rfl) ?_
  refine AOps_q 8 _ rfl rfl rfl (QOp_sub _ _ _ _ _ _ _ rfl rfl rfl) ?_
  refine AOps_q 1 _ rfl rfl rfl (QOp_assign _ _ rfl rfl) ?_
  refine AOps_nil ?_
  refine ACode_seq ?_
  refine ACode_seq (ACode_region ?_)
  refine AOps_q 9 _ rfl rfl rfl (QOp_move _ _ rfl rfl) ?_
  refine AOps_q 10 _ rfl rfl rfl (QOp_lss _ _ _ _ _ _ _ rfl rfl rfl) ?_
  refine AOps_nil ?_
  refine ACode_cond _ rfl (fun hb1 => ?_) (fun hb1 => ?_)
  · have h := iteT hb1 h
    refine ACode_seq (ACode_region ?_)
    refine AOps_q 4 _ rfl rfl rfl (QOp_assign _ _ rfl rfl) ?_
    refine AOps_nil ?_
    refine ACode_ret ?_
    cases h
    exact ⟨_, _, fun r a w h => ⟨r, h⟩, _, _, [], _, (.cons (ResV_tmp _ _ rfl) .nil), rfl, rfl, rfl, rfl, rfl⟩
  · have h := iteF hb1 h
    refine ACode_skip ?_
    refine ACode_seq (ACode_region ?_)
    refine AOps_q 11 _ rfl rfl rfl (QOp_move _ _ rfl rfl) ?_
    refine AOps_q 4 _ rfl rfl rfl (QOp_assign _ _ rfl rfl) ?_
    refine AOps_nil ?_
    refine ACode_ret ?_
    cases h
    exact ⟨_, _, fun r a w h => ⟨r, h⟩, _, _, [], _, (.cons (ResV_tmp _ _ rfl) .nil), rfl, rfl, rfl, rfl, rfl⟩

-- loop.example/g01362/laws.szInt64SS
def laws_szInt64SS_l0 (p0 : List (List Int)) : Nat → Int → Int → Option (Sum (Int) (Int))
  | 0, _, _ => none
  | k0 + 1, x2, x3 => (if decide (x3 < (p0.length : Int)) then (if 0 ≤ x3 ∧ x3 < (p0.length : Int) then (if decide ((laws_szInt64S (p0.getD x3.toNat []) x2) < 0) then some (.inr (-1)) else laws_szInt64SS_l0 p0 k0 (laws_szInt64S (p0.getD x3.toNat []) x2) (w64 (x3 + 1))) else none) else some (.inl x2))
def laws_szInt64SS (k : Nat) (p0 : List (List Int)) (p1 : Int) : Option (Int) :=
  (if decide (w64 (p1 - (p0.length : Int)) < 0) then some (-1) else (laws_szInt64SS_l0 p0 k (w64 (p1 - (p0.length : Int))) 0 : Option (Sum (Int) (Int))).bind fun os8 => (match os8 with | .inl s8 => some s8 | .inr rr => some rr))
set_option maxRecDepth 100000 in
theorem laws_szInt64SS_ac (k : Nat) (p0 : List (List Int)) (p1 : Int) (r : Int) (h : laws_szInt64SS k p0 p1 = some r) : AC Try.prog 13 [.d (.sl none (rowsD p0)), iV p1] [] (fun res H' => res = [iV r] ∧ H' = []) := by
  refine AC_of_body true Try.func13 rfl Try.ntmps13 (rvs := [.tmp 4]) rfl rfl (fun G hG => ?_)
  have hm : G.H.length = 0 := by rw [hG]; rfl
  have hz : zeroG G.H = true := by rw [hG]; rfl
  unfold laws_szInt64SS at h
  refine ACode_seq (ACode_region ?_)
  refine AOps_q 4 _ rfl rfl rfl (QOp_assign _ _ rfl rfl) ?_
  refine AOps_nil ?_
  refine ACode_seq (ACode_region ?_)
  refine AOps_q 6 _ rfl rfl rfl (QOp_move _ _ rfl rfl) ?_
  refine AOps_q 7 _ rfl rfl rfl (QOp_move _ _ rfl rfl) ?_
  refine AOps_q 8 _ rfl rfl rfl (QOp_len_sl _ _ _ _ _ _ _ (rowsD_length _) rfl rfl rfl rfl Try.underlying25 rfl) ?_
  refine AOps_q 9 _ rfl rfl rfl (QOp_sub _ _ _ _ _ _ _ rfl rfl rfl) ?_
  refine AOps_q 1 _ rfl rfl rfl (QOp_assign _ _ rfl rfl) ?_
  refine AOps_nil ?_
  refine ACode_seq ?_
  refine ACode_seq (ACode_region ?_)
  refine AOps_q 10 _ rfl rfl rfl (QOp_move _ _ rfl rfl) ?_
  refine AOps_q 11 _ rfl rfl rfl (QOp_lss _ _ _ _ _ _ _ rfl rfl rfl) ?_
  refine AOps_nil ?_
  refine ACode_cond _ rfl (fun hb1 => ?_) (fun hb1 => ?_)
  · have h := iteT hb1 h
    refine ACode_seq (ACode_region ?_)
    refine AOps_q 4 _ rfl rfl rfl (QOp_assign _ _ rfl rfl) ?_
    refine AOps_nil ?_
    refine ACode_ret ?_
    cases h
    exact ⟨_, _, fun r a w h => ⟨r, h⟩, _, _, [], _, (.cons (ResV_tmp _ _ rfl) .nil), rfl, rfl, rfl, rfl, rfl⟩
  · have h := iteF hb1 h
    refine ACode_skip ?_
    obtain ⟨os8, hss8, hks8⟩ := bindO h
    clear h
    refine ACode_seqJ (fun E' H' => ∃ s8 : Int, os8 = .inl s8 ∧ Weak 27 G E' H' [(1, iV s8)] []) ?_ ?_
    · have h := hss8
      clear hss8
      refine ACode_seq (ACode_region ?_)
      refine AOps_q 5 _ rfl rfl rfl (QOp_assign _ _ rfl rfl) ?_
      refine AOps_nil ?_
      refine ACode_block ?_
      refine ACode_loopW (fun k0 E H => ∃ (x2 : Int) (x3 : Int), E = [(0, .d (.sl none (rowsD p0))), (1, iV x2), (5, iV x3)] ∧ H = [] ∧ laws_szInt64SS_l0 p0 k0 x2 x3 = some os8) k _ _ (Weak_keep 0 hm [0, 1, 5] [] _ _ rfl rfl rfl) ⟨_, _, rfl, rfl, h⟩ ?_
      clear h
      rintro k0 E H ⟨x2, x3, rfl, rfl, h⟩
      cases k0 with
      | zero => cases (show (none : Option (Sum (Int) (Int))) = some _ from h)
      | succ k0 =>
        rw [laws_szInt64SS_l0] at h
        refine ACode_seq ?_
        refine ACode_seq (ACode_region ?_)
        refine AOps_q 12 _ rfl rfl rfl (QOp_move _ _ rfl rfl) ?_
        refine AOps_q 13 _ rfl rfl rfl (QOp_move _ _ rfl rfl) ?_
        refine AOps_q 14 _ rfl rfl rfl (QOp_len_sl _ _ _ _ _ _ _ (rowsD_length _) rfl rfl rfl rfl Try.underlying25 rfl) ?_
        refine AOps_q 15 _ rfl rfl rfl (QOp_lss _ _ _ _ _ _ _ rfl rfl rfl) ?_
        refine AOps_nil ?_
        refine ACode_cond _ rfl (fun hb4 => ?_) (fun hb4 => ?_)
        · have h := iteT hb4 h
          refine ACode_skip ?_
          refine ACode_seq ?_
          refine ACode_block ?_
          refine ACode_seq (ACode_region ?_)
          refine AOps_q 18 _ rfl rfl rfl (QOp_move _ _ rfl rfl) ?_
          refine AOps_q 19 _ rfl rfl rfl (QOp_move _ _ rfl rfl) ?_
          obtain ⟨hc5, h⟩ := guardO h
          refine AOps_q 20 _ rfl rfl rfl (QOp_indexAddr_sl _ _ _ _ _ _ _ _ rfl Try.underlying25 Try.sizeOf40 hc5.1 (by rw [rowsD_length]; exact hc5.2) rfl rfl) ?_
          refine AOps_q 21 _ rfl rfl rfl (QOp_load_pv _ _ _ _ _ rfl Try.isAgg40 rfl (rowsD_get _ _ [] (by omega))) ?_
          refine AOps_q 22 _ rfl rfl rfl (QOp_move _ _ rfl rfl) ?_
          refine AOps_call [] 23 _ _ _ _ _ _ _ _ _ _ rfl rfl rfl rfl rfl rfl rfl Try.call32 rfl (nodupB_sound _ rfl) rfl rfl rfl (laws_szInt64S_ac (p0.getD x3.toNat []) x2) ?_
          rintro _ _ ⟨rfl, rfl⟩
          refine ⟨(fun _ h => nomatch h), (allc (trivial) (fun _ h => nomatch h)), AOps_as 23 (v' := iV (laws_szInt64S (p0.getD x3.toNat []) x2)) (H' := []) rfl rfl ?_⟩
          refine AOps_q 1 _ rfl rfl rfl (QOp_assign _ _ rfl rfl) ?_
          refine AOps_nil ?_
          refine ACode_seq (ACode_region ?_)
          refine AOps_q 24 _ rfl rfl rfl (QOp_move _ _ rfl rfl) ?_
          refine AOps_q 25 _ rfl rfl rfl (QOp_lss _ _ _ _ _ _ _ rfl rfl rfl) ?_
          refine AOps_nil ?_
          refine ACode_cond _ rfl (fun hb7 => ?_) (fun hb7 => ?_)
          · have h := iteT hb7 h
            refine ACode_seq (ACode_region ?_)
            refine AOps_q 4 _ rfl rfl rfl (QOp_assign _ _ rfl rfl) ?_
            refine AOps_nil ?_
            refine ACode_ret ?_
            cases h
            have h := hks8
            cases h
            exact ⟨_, _, fun r a w h => ⟨r, h⟩, _, _, [], _, (.cons (ResV_tmp _ _ rfl) .nil), rfl, rfl, rfl, rfl, rfl⟩
          · have h := iteF hb7 h
            refine ACode_skip ?_
            refine (ACode_region ?_)
            refine AOps_q 16 _ rfl rfl rfl (QOp_move _ _ rfl rfl) ?_
            refine AOps_q 17 _ rfl rfl rfl (QOp_add _ _ _ _ _ _ _ rfl rfl rfl) ?_
            refine AOps_q 5 _ rfl rfl rfl (QOp_assign _ _ rfl rfl) ?_
            refine AOps_nil ?_
            exact ⟨k0, _, _, Nat.lt_succ_self _, Weak_keep 0 hm [0, 1, 5] [] _ _ rfl rfl rfl, _, _, rfl, rfl, h⟩
        · have h := iteF hb4 h
          refine ACode_exit ?_
          cases h
          exact ⟨_, rfl, Weak_keep 0 hm [1] [] _ _ rfl rfl rfl⟩
    rintro E' H' ⟨s8, rfl, hw⟩
    refine ACode_weak hw ?_
    have h := hks8
    refine ACode_seq (ACode_region ?_)
    refine AOps_q 26 _ rfl rfl rfl (QOp_move _ _ rfl rfl) ?_
    refine AOps_q 4 _ rfl rfl rfl (QOp_assign _ _ rfl rfl) ?_
    refine AOps_nil ?_
    refine ACode_ret ?_
    cases h
    exact ⟨_, _, fun r a w h => ⟨r, h⟩, _, _, [], _, (.cons (ResV_tmp _ _ rfl) .nil), rfl, rfl, rfl, rfl, rfl⟩

-- loop.example/g01362/laws.toInt64S
def laws_toInt64S_l0 (p0 : List Int) : Nat → Int → (List Int) → Option (List Int)
  | 0, _, _ => none
  | k0 + 1, x2, x3 => (if decide (x2 < (p0.length : Int)) then (if 0 ≤ x2 ∧ x2 < (p0.length : Int) then (if 0 ≤ x2 ∧ x2 < (x3.length : Int) then laws_toInt64S_l0 p0 k0 (w64 (x2 + 1)) (x3.set x2.toNat (p0.getD x2.toNat 0)) else none) else none) else some x3)
def laws_toInt64S (k : Nat) (p0 : List Int) : Option (List Int) :=
  (if 0 ≤ (p0.length : Int) ∧ (p0.length : Int) ≤ (p0.length : Int) ∧ (p0.length : Int) ≤ 1099511627776 then (laws_toInt64S_l0 p0 k 0 (List.replicate (p0.length : Int).toNat (0 : Int)) : Option (List Int)).bind fun s7 => some s7 else none)
set_option maxRecDepth 100000 in
theorem laws_toInt64S_ac (k : Nat) (p0 : List Int) (r : List Int) (h : laws_toInt64S k p0 = some r) : AC Try.prog 20 [.d (.sl none (intsD p0))] [] (fun res H' => res = [.vec 0 0] ∧ H' = [.vec 0 (intsD r)]) := by
  refine AC_of_body true Try.func20 rfl Try.ntmps20 (rvs := [.tmp 2]) rfl rfl (fun G hG => ?_)
  have hm : G.H.length = 0 := by rw [hG]; rfl
  have hz : zeroG G.H = true := by rw [hG]; rfl
  unfold laws_toInt64S at h
  refine ACode_seq (ACode_region ?_)
  refine AOps_q 2 _ rfl rfl rfl (QOp_assign _ _ rfl rfl) ?_
  refine AOps_nil ?_
  refine ACode_seq (ACode_region ?_)
  refine AOps_q 5 _ rfl rfl rfl (QOp_move _ _ rfl rfl) ?_
  refine AOps_q 6 _ rfl rfl rfl (QOp_len_sl _ _ _ _ _ _ _ (intsD_length _) rfl rfl rfl rfl Try.underlying40 rfl) ?_
  obtain ⟨hc1, h⟩ := guardO h
  refine AOps_makeSliceG intsD iD 0 (intsD_rep · _) 7 _ _ _ _ _ _ (p0.length : Int) (p0.length : Int) _ (.int .i64 0) rfl rfl rfl rfl rfl rfl Try.underlying40 Try.type2 rfl rfl (by decide) rfl rfl hc1.1 hc1.2.1 hc1.2.2 ?_
  refine AOps_q 3 _ rfl rfl rfl (QOp_assign _ _ rfl rfl) ?_
  refine AOps_nil ?_
  obtain ⟨s7, hss7, hks7⟩ := bindO h
  clear h
  refine ACode_seqJ (fun E' H' => Weak 22 G E' H' [(3, .vec 0 0)] [.vec 0 (intsD s7)]) ?_ ?_
  · have h := hss7
    clear hss7
    refine ACode_seq (ACode_region ?_)
    refine AOps_q 4 _ rfl rfl rfl (QOp_assign _ _ rfl rfl) ?_
    refine AOps_nil ?_
    refine ACode_block ?_
    refine ACode_loopW (fun k0 E H => ∃ (x2 : Int) (x3 : List Int), E = [(0, .d (.sl none (intsD p0))), (3, .vec 0 0), (4, iV x2)] ∧ H = [.vec 0 (intsD x3)] ∧ laws_toInt64S_l0 p0 k0 x2 x3 = some s7) k _ _ (Weak_keep 0 hm [0, 3, 4] [0] _ _ rfl rfl rfl) ⟨_, _, rfl, rfl, h⟩ ?_
    clear h
    rintro k0 E H ⟨x2, x3, rfl, rfl, h⟩
    cases k0 with
    | zero => cases (show (none : Option (List Int)) = some _ from h)
    | succ k0 =>
      rw [laws_toInt64S_l0] at h
      refine ACode_seq ?_
      refine ACode_seq (ACode_region ?_)
      refine AOps_q 8 _ rfl rfl rfl (QOp_move _ _ rfl rfl) ?_
      refine AOps_q 9 _ rfl rfl rfl (QOp_move _ _ rfl rfl) ?_
      refine AOps_q 10 _ rfl rfl rfl (QOp_len_sl _ _ _ _ _ _ _ (intsD_length _) rfl rfl rfl rfl Try.underlying40 rfl) ?_
      refine AOps_q 11 _ rfl rfl rfl (QOp_lss _ _ _ _ _ _ _ rfl rfl rfl) ?_
      refine AOps_nil ?_
      refine ACode_cond _ rfl (fun hb4 => ?_) (fun hb4 => ?_)
      · have h := iteT hb4 h
        refine ACode_skip ?_
        refine ACode_seq ?_
        refine ACode_block ?_
        refine (ACode_region ?_)
        refine AOps_q 14 _ rfl rfl rfl (QOp_move _ _ rfl rfl) ?_
        refine AOps_q 15 _ rfl rfl rfl (QOp_move _ _ rfl rfl) ?_
        refine AOps_q 16 _ rfl rfl rfl (QOp_move _ _ rfl rfl) ?_
        refine AOps_q 17 _ rfl rfl rfl (QOp_move _ _ rfl rfl) ?_
        obtain ⟨hc5, h⟩ := guardO h
        refine AOps_q 18 _ rfl rfl rfl (QOp_indexAddr_sl _ _ _ _ _ _ _ _ rfl Try.underlying40 Try.sizeOf2 hc5.1 (by rw [intsD_length]; exact hc5.2) rfl rfl) ?_
        refine AOps_q 19 _ rfl rfl rfl (QOp_load_pv _ _ _ _ _ rfl Try.isAgg2 rfl (intsD_get _ _ 0 (by omega))) ?_
        obtain ⟨hc6, h⟩ := guardO h
        refine AOps_q 20 _ rfl rfl rfl (QOp_indexAddr_vec _ _ _ _ _ _ _ _ _ rfl Try.underlying40 Try.sizeOf2 hc6.1 (by rw [intsD_length]; exact hc6.2) rfl rfl rfl) ?_
        refine AOps_store_eptr _ _ _ _ _ _ (intsD x3) _ rfl rfl rfl rfl rfl rfl rfl Try.sizeOf2 (by rw [intsD_length]; omega) ?_
        rw [intsD_set]
        refine AOps_nil ?_
        refine (ACode_region ?_)
        refine AOps_q 12 _ rfl rfl rfl (QOp_move _ _ rfl rfl) ?_
        refine AOps_q 13 _ rfl rfl rfl (QOp_add _ _ _ _ _ _ _ rfl rfl rfl) ?_
        refine AOps_q 4 _ rfl rfl rfl (QOp_assign _ _ rfl rfl) ?_
        refine AOps_nil ?_
        exact ⟨k0, _, _, Nat.lt_succ_self _, Weak_keep 0 hm [0, 3, 4] [0] _ _ rfl rfl rfl, _, _, rfl, rfl, h⟩
      · have h := iteF hb4 h
        refine ACode_exit ?_
        cases h
        exact Weak_keep 0 hm [3] [0] _ _ rfl rfl rfl
  intro E' H' hw
  refine ACode_weak hw ?_
  have h := hks7
  refine ACode_seq (ACode_region ?_)
  refine AOps_q 21 _ rfl rfl rfl (QOp_move _ _ rfl rfl) ?_
  refine AOps_q 2 _ rfl rfl rfl (QOp_assign _ _ rfl rfl) ?_
  refine AOps_nil ?_
  refine ACode_ret ?_
  cases h
  exact ⟨_, _, Weak_reset 0 hm hz [2] _ _ rfl rfl, _, _, [0], _, (.cons (ResV_tmp _ _ rfl) .nil), rfl, rfl, rfl, rfl, rfl⟩

-- loop.example/g01362/laws.toInt64SS
def laws_toInt64SS_l0 (k : Nat) (p0 : List (List Int)) : Nat → Int → (List (List Int)) → Option (List (List Int))
  | 0, _, _ => none
  | k0 + 1, x2, x3 => (if decide (x2 < (p0.length : Int)) then (if 0 ≤ x2 ∧ x2 < (p0.length : Int) then (laws_toInt64S k (p0.getD x2.toNat [])).bind fun r6 => (if 0 ≤ x2 ∧ x2 < (x3.length : Int) then laws_toInt64SS_l0 k p0 k0 (w64 (x2 + 1)) (x3.set x2.toNat r6) else none) else none) else some x3)
def laws_toInt64SS (k : Nat) (p0 : List (List Int)) : Option (List (List Int)) :=
  (if 0 ≤ (p0.length : Int) ∧ (p0.length : Int) ≤ (p0.length : Int) ∧ (p0.length : Int) ≤ 1099511627776 then (laws_toInt64SS_l0 k p0 k 0 (List.replicate (p0.length : Int).toNat ([] : List Int)) : Option (List (List Int))).bind fun s8 => some s8 else none)
set_option maxRecDepth 100000 in
theorem laws_toInt64SS_ac (k : Nat) (p0 : List (List Int)) (r : List (List Int)) (h : laws_toInt64SS k p0 = some r) : AC Try.prog 15 [.d (.sl none (rowsD p0))] [] (fun res H' => res = [.vec 0 0] ∧ H' = [.vec 0 (rowsD r)]) := by
  refine AC_of_body true Try.func15 rfl Try.ntmps15 (rvs := [.tmp 2]) rfl rfl (fun G hG => ?_)
  have hm : G.H.length = 0 := by rw [hG]; rfl
  have hz : zeroG G.H = true := by rw [hG]; rfl
  unfold laws_toInt64SS at h
  refine ACode_seq (ACode_region ?_)
  refine AOps_q 2 _ rfl rfl rfl (QOp_assign _ _ rfl rfl) ?_
  refine AOps_nil ?_
  refine ACode_seq (ACode_region ?_)
  refine AOps_q 5 _ rfl rfl rfl (QOp_move _ _ rfl rfl) ?_
  refine AOps_q 6 _ rfl rfl rfl (QOp_len_sl _ _ _ _ _ _ _ (rowsD_length _) rfl rfl rfl rfl Try.underlying25 rfl) ?_
  obtain ⟨hc1, h⟩ := guardO h
  refine AOps_makeRows 7 _ _ _ _ _ _ (p0.length : Int) (p0.length : Int) _ rfl rfl rfl rfl Try.underlying25 Try.type40 rfl rfl (by decide) rfl rfl hc1.1 hc1.2.1 hc1.2.2 ?_
  refine AOps_q 3 _ rfl rfl rfl (QOp_assign _ _ rfl rfl) ?_
  refine AOps_nil ?_
  obtain ⟨s8, hss8, hks8⟩ := bindO h
  clear h
  refine ACode_seqJ (fun E' H' => Weak 23 G E' H' [(3, .vec 0 0)] [.vec 0 (rowsD s8)]) ?_ ?_
  · have h := hss8
    clear hss8
    refine ACode_seq (ACode_region ?_)
    refine AOps_q 4 _ rfl rfl rfl (QOp_assign _ _ rfl rfl) ?_
    refine AOps_nil ?_
    refine ACode_block ?_
    refine ACode_loopW (fun k0 E H => ∃ (x2 : Int) (x3 : List (List Int)), E = [(0, .d (.sl none (rowsD p0))), (3, .vec 0 0), (4, iV x2)] ∧ H = [.vec 0 (rowsD x3)] ∧ laws_toInt64SS_l0 k p0 k0 x2 x3 = some s8) k _ _ (Weak_keep 0 hm [0, 3, 4] [0] _ _ rfl rfl rfl) ⟨_, _, rfl, rfl, h⟩ ?_
    clear h
    rintro k0 E H ⟨x2, x3, rfl, rfl, h⟩
    cases k0 with
    | zero => cases (show (none : Option (List (List Int))) = some _ from h)
    | succ k0 =>
      rw [laws_toInt64SS_l0] at h
      refine ACode_seq ?_
      refine ACode_seq (ACode_region ?_)
      refine AOps_q 8 _ rfl rfl rfl (QOp_move _ _ rfl rfl) ?_
      refine AOps_q 9 _ rfl rfl rfl (QOp_move _ _ rfl rfl) ?_
      refine AOps_q 10 _ rfl rfl rfl (QOp_len_sl _ _ _ _ _ _ _ (rowsD_length _) rfl rfl rfl rfl Try.underlying25 rfl) ?_
      refine AOps_q 11 _ rfl rfl rfl (QOp_lss _ _ _ _ _ _ _ rfl rfl rfl) ?_
      refine AOps_nil ?_
      refine ACode_cond _ rfl (fun hb4 => ?_) (fun hb4 => ?_)
      · have h := iteT hb4 h
        refine ACode_skip ?_
        refine ACode_seq ?_
        refine ACode_block ?_
        refine (ACode_region ?_)
        refine AOps_q 14 _ rfl rfl rfl (QOp_move _ _ rfl rfl) ?_
        refine AOps_q 15 _ rfl rfl rfl (QOp_move _ _ rfl rfl) ?_
        refine AOps_q 16 _ rfl rfl rfl (QOp_move _ _ rfl rfl) ?_
        refine AOps_q 17 _ rfl rfl rfl (QOp_move _ _ rfl rfl) ?_
        obtain ⟨hc5, h⟩ := guardO h
        refine AOps_q 18 _ rfl rfl rfl (QOp_indexAddr_sl _ _ _ _ _ _ _ _ rfl Try.underlying25 Try.sizeOf40 hc5.1 (by rw [rowsD_length]; exact hc5.2) rfl rfl) ?_
        refine AOps_q 19 _ rfl rfl rfl (QOp_load_pv _ _ _ _ _ rfl Try.isAgg40 rfl (rowsD_get _ _ [] (by omega))) ?_
        obtain ⟨r6, hr6, h⟩ := bindO h
        refine AOps_call [] 20 _ _ _ _ _ _ _ _ _ _ rfl rfl rfl rfl rfl rfl rfl Try.call20 rfl (nodupB_sound _ rfl) rfl rfl rfl (laws_toInt64S_ac k (p0.getD x2.toNat []) _ hr6) ?_
        rintro _ _ ⟨rfl, rfl⟩
        refine ⟨(allc (fun _ _ => trivial) (fun _ h => nomatch h)), (allc (trivial) (fun _ h => nomatch h)), AOps_as 20 (v' := .vec 1 0) (H' := [.vec 0 (rowsD x3), .vec 0 (intsD r6)]) rfl rfl ?_⟩
        obtain ⟨hc7, h⟩ := guardO h
        refine AOps_q 21 _ rfl rfl rfl (QOp_indexAddr_vec _ _ _ _ _ _ _ _ _ rfl Try.underlying25 Try.sizeOf40 hc7.1 (by rw [rowsD_length]; exact hc7.2) rfl rfl rfl) ?_
        refine AOps_freeze 20 1 0 _ rfl rfl ?_
        refine AOps_store_eptr _ _ _ _ _ _ (rowsD x3) _ rfl rfl rfl rfl rfl rfl rfl Try.sizeOf40 (by rw [rowsD_length]; omega) ?_
        rw [rowsD_set]
        refine AOps_nil ?_
        refine (ACode_region ?_)
        refine AOps_q 12 _ rfl rfl rfl (QOp_move _ _ rfl rfl) ?_
        refine AOps_q 13 _ rfl rfl rfl (QOp_add _ _ _ _ _ _ _ rfl rfl rfl) ?_
        refine AOps_q 4 _ rfl rfl rfl (QOp_assign _ _ rfl rfl) ?_
        refine AOps_nil ?_
        exact ⟨k0, _, _, Nat.lt_succ_self _, Weak_keep 0 hm [0, 3, 4] [0] _ _ rfl rfl rfl, _, _, rfl, rfl, h⟩
      · have h := iteF hb4 h
        refine ACode_exit ?_
        cases h
        exact Weak_keep 0 hm [3] [0] _ _ rfl rfl rfl
  intro E' H' hw
  refine ACode_weak hw ?_
  have h := hks8
  refine ACode_seq (ACode_region ?_)
  refine AOps_q 22 _ rfl rfl rfl (QOp_move _ _ rfl rfl) ?_
  refine AOps_q 2 _ rfl rfl rfl (QOp_assign _ _ rfl rfl) ?_
  refine AOps_nil ?_
  refine ACode_ret ?_
  cases h
  exact ⟨_, _, Weak_reset 0 hm hz [2] _ _ rfl rfl, _, _, [0], _, (.cons (ResV_tmp _ _ rfl) .nil), rfl, rfl, rfl, rfl, rfl⟩

-- loop.example/g01362/spec.l01In
def spec_l01In (p0 : Int) (p1 : Int) (p2 : Int) : Bool :=
  letO (if decide (p1 ≤ p0) then decide (p0 ≤ p2) else false) fun (s2 : Bool) => s2
set_option maxRecDepth 100000 in
theorem spec_l01In_ac (p0 : Int) (p1 : Int) (p2 : Int) : AC Try.prog 37 [iV p0, iV p1, iV p2] [] (fun res H' => res = [bV (spec_l01In p0 p1 p2)] ∧ H' = []) := by
  refine AC_of_body true Try.func37 rfl Try.ntmps37 (rvs := [.tmp 6]) rfl rfl (fun G hG => ?_)
  have hm : G.H.length = 0 := by rw [hG]; rfl
  have hz : zeroG G.H = true := by rw [hG]; rfl
  obtain ⟨r, h⟩ : ∃ r, spec_l01In p0 p1 p2 = r := ⟨_, rfl⟩
  rw [h]
  unfold spec_l01In at h
  refine ACode_seq (ACode_region ?_)
  refine AOps_q 6 _ rfl rfl rfl (QOp_assign _ _ rfl rfl) ?_
  refine AOps_nil ?_
  obtain ⟨s2, hss2, hks2⟩ := letS h
  clear h
  refine ACode_seqJ (fun E' H' => Weak 15 G E' H' [(6, bV s2)] []) ?_ ?_
  · have h := hss2
    clear hss2
    refine (ACode_region ?_)
    refine AOps_q 7 _ rfl rfl rfl (QOp_move _ _ rfl rfl) ?_
    refine AOps_q 8 _ rfl rfl rfl (QOp_move _ _ rfl rfl) ?_
    refine AOps_q 9 _ rfl rfl rfl (QOp_geq _ _ _ _ _ _ _ rfl rfl rfl) ?_
    refine AOps_q 10 _ rfl rfl rfl (QOp_move _ _ rfl rfl) ?_
    refine AOps_case 10 _ rfl (fun hb1 => ?_) (fun hb1 => ?_)
    · have h := iteT hb1 h
      refine AOps_q 11 _ rfl rfl rfl (QOp_move _ _ rfl rfl) ?_
      refine AOps_q 12 _ rfl rfl rfl (QOp_move _ _ rfl rfl) ?_
      refine AOps_q 13 _ rfl rfl rfl (QOp_leq _ _ _ _ _ _ _ rfl rfl rfl) ?_
      refine AOps_q 14 _ rfl rfl rfl (QOp_pick_t _ _ _ _ rfl rfl rfl) ?_
      refine AOps_q 6 _ rfl rfl rfl (QOp_assign _ _ rfl rfl) ?_
      refine AOps_nil ?_
      cases h
      exact Weak_keep 0 hm [6] [] _ _ rfl rfl rfl
    · have h := iteF hb1 h
      refine AOps_skip 11 rfl rfl rfl ?_
      refine AOps_skip 12 rfl rfl rfl ?_
      refine AOps_skip 13 rfl rfl rfl ?_
      refine AOps_q 14 _ rfl rfl rfl (QOp_pick_f _ _ _ _ rfl rfl rfl) ?_
      refine AOps_q 6 _ rfl rfl rfl (QOp_assign _ _ rfl rfl) ?_
      refine AOps_nil ?_
      cases h
      exact Weak_keep 0 hm [6] [] _ _ rfl rfl rfl
  intro E' H' hw
  refine ACode_weak hw ?_
  have h := hks2
  refine ACode_ret ?_
  cases h
  exact ⟨_, _, fun r a w h => ⟨r, h⟩, _, _, [], _, (.cons (ResV_tmp _ _ rfl) .nil), rfl, rfl, rfl, rfl, rfl⟩

-- loop.example/g01362/spec.l10Row
def spec_l10Row_l0 (p0 : List (List Int)) : Nat → Int → Option (Sum (Unit) (Bool))
  | 0, _ => none
  | k0 + 1, x5 => (if decide (x5 < (p0.length : Int)) then (((if 0 ≤ x5 ∧ x5 < (p0.length : Int) then (if !decide (((p0.getD x5.toNat []).length : Int) = 2) then some true else (if 0 ≤ x5 ∧ x5 < (p0.length : Int) then (if 0 ≤ (0 : Int) ∧ (0 : Int) < ((p0.getD x5.toNat []).length : Int) then (if !(spec_l01In ((p0.getD x5.toNat []).getD (0 : Int).toNat 0) (-1000) 1000) then some true else (if 0 ≤ x5 ∧ x5 < (p0.length : Int) then (if 0 ≤ (1 : Int) ∧ (1 : Int) < ((p0.getD x5.toNat []).length : Int) then (if !(spec_l01In ((p0.getD x5.toNat []).getD (1 : Int).toNat 0) (-1000) 1000) then some true else (if decide (0 < x5) then (if 0 ≤ x5 ∧ x5 < (p0.length : Int) then (if 0 ≤ (0 : Int) ∧ (0 : Int) < ((p0.getD x5.toNat []).length : Int) then (if 0 ≤ w64 (x5 - 1) ∧ w64 (x5 - 1) < (p0.length : Int) then (if 0 ≤ (0 : Int) ∧ (0 : Int) < ((p0.getD (w64 (x5 - 1)).toNat []).length : Int) then some (decide (((p0.getD x5.toNat []).getD (0 : Int).toNat 0) ≤ ((p0.getD (w64 (x5 - 1)).toNat []).getD (0 : Int).toNat 0))) else none) else none) else none) else none) else some false)) else none) else none)) else none) else none)) else none) : Option (Bool)).bind fun s22 => (if s22 then (some (.inr false)).bind fun rr => some (.inr rr) else some (.inl ())) : Option (Sum (Unit) (Sum (Unit) (Bool)))).bind fun os24 => (match os24 with | .inl s24 => spec_l10Row_l0 p0 k0 (w64 (x5 + 1)) | .inr rr => some rr) else some (.inl ()))
def spec_l10Row (k : Nat) (p0 : List (List Int)) : Option (Bool) :=
  (letO (if decide ((p0.length : Int) < 1) then true else decide (17 < (p0.length : Int))) fun (s2 : Bool) => (if s2 then some (.inr false) else some (.inl ())) : Option (Sum (Unit) (Bool))).bind fun os4 => (match os4 with | .inl s4 => (spec_l10Row_l0 p0 k 0 : Option (Sum (Unit) (Bool))).bind fun os25 => (match os25 with | .inl s25 => some true | .inr rr => some rr) | .inr rr => some rr)
set_option maxRecDepth 100000 in
theorem spec_l10Row_ac (k : Nat) (p0 : List (List Int)) (r : Bool) (h : spec_l10Row k p0 = some r) : AC Try.prog 33 [.d (.sl none (rowsD p0))] [] (fun res H' => res = [bV r] ∧ H' = []) := by
  refine AC_of_body true Try.func33 rfl Try.ntmps33 (rvs := [.tmp 2]) rfl rfl (fun G hG => ?_)
  have hm : G.H.length = 0 := by rw [hG]; rfl
  have hz : zeroG G.H = true := by rw [hG]; rfl
  unfold spec_l10Row at h
  refine ACode_seq (ACode_region ?_)
  refine AOps_q 2 _ rfl rfl rfl (QOp_assign _ _ rfl rfl) ?_
  refine AOps_nil ?_
  obtain ⟨os4, hss4, hks4⟩ := bindO h
  clear h
  refine ACode_seqJ (fun E' H' => ∃ s4 : Unit, os4 = .inl s4 ∧ Weak 64 G E' H' [(0, .d (.sl none (rowsD p0)))] []) ?_ ?_
  · have h := hss4
    clear hss4
    obtain ⟨s2, hss2, hks2⟩ := letS h
    clear h
    refine ACode_seqJ (fun E' H' => Weak 64 G E' H' [(0, .d (.sl none (rowsD p0))), (11, bV s2)] []) ?_ ?_
    · have h := hss2
      clear hss2
      refine (ACode_region ?_)
      refine AOps_q 4 _ rfl rfl rfl (QOp_move _ _ rfl rfl) ?_
      refine AOps_q 5 _ rfl rfl rfl (QOp_len_sl _ _ _ _ _ _ _ (rowsD_length _) rfl rfl rfl rfl Try.underlying25 rfl) ?_
      refine AOps_q 6 _ rfl rfl rfl (QOp_lss _ _ _ _ _ _ _ rfl rfl rfl) ?_
      refine AOps_q 7 _ rfl rfl rfl (QOp_move _ _ rfl rfl) ?_
      refine AOps_case 7 _ rfl (fun hb1 => ?_) (fun hb1 => ?_)
      · have h := iteT hb1 h
        refine AOps_skip 8 rfl rfl rfl ?_
        refine AOps_skip 9 rfl rfl rfl ?_
        refine AOps_skip 10 rfl rfl rfl ?_
        refine AOps_q 11 _ rfl rfl rfl (QOp_pick_t _ _ _ _ rfl rfl rfl) ?_
        refine AOps_nil ?_
        cases h
        exact Weak_keep 0 hm [0, 11] [] _ _ rfl rfl rfl
      · have h := iteF hb1 h
        refine AOps_q 8 _ rfl rfl rfl (QOp_move _ _ rfl rfl) ?_
        refine AOps_q 9 _ rfl rfl rfl (QOp_len_sl _ _ _ _ _ _ _ (rowsD_length _) rfl rfl rfl rfl Try.underlying25 rfl) ?_
        refine AOps_q 10 _ rfl rfl rfl (QOp_gtr _ _ _ _ _ _ _ rfl rfl rfl) ?_
        refine AOps_q 11 _ rfl rfl rfl (QOp_pick_f _ _ _ _ rfl rfl rfl) ?_
        refine AOps_nil ?_
        cases h
        exact Weak_keep 0 hm [0, 11] [] _ _ rfl rfl rfl
    intro E' H' hw
    refine ACode_weak hw ?_
    have h := hks2
    refine ACode_cond _ rfl (fun hb3 => ?_) (fun hb3 => ?_)
    · have h := iteT hb3 h
      refine ACode_seq (ACode_region ?_)
      refine AOps_q 2 _ rfl rfl rfl (QOp_assign _ _ rfl rfl) ?_
      refine AOps_nil ?_
      refine ACode_ret ?_
      cases h
      have h := hks4
      cases h
      exact ⟨_, _, fun r a w h => ⟨r, h⟩, _, _, [], _, (.cons (ResV_tmp _ _ rfl) .nil), rfl, rfl, rfl, rfl, rfl⟩
    · have h := iteF hb3 h
      refine ACode_skip ?_
      cases h
      exact ⟨_, rfl, Weak_keep 0 hm [0] [] _ _ rfl rfl rfl⟩
  rintro E' H' ⟨s4, rfl, hw⟩
  refine ACode_weak hw ?_
  have h := hks4
  obtain ⟨os25, hss25, hks25⟩ := bindO h
  clear h
  refine ACode_seqJ (fun E' H' => ∃ s25 : Unit, os25 = .inl s25 ∧ Weak 64 G E' H' [] []) ?_ ?_
  · have h := hss25
    clear hss25
    refine ACode_seq (ACode_region ?_)
    refine AOps_q 3 _ rfl rfl rfl (QOp_assign _ _ rfl rfl) ?_
    refine AOps_nil ?_
    refine ACode_block ?_
    refine ACode_loopW (fun k0 E H => ∃ (x5 : Int), E = [(0, .d (.sl none (rowsD p0))), (3, iV x5)] ∧ H = [] ∧ spec_l10Row_l0 p0 k0 x5 = some os25) k _ _ (Weak_keep 0 hm [0, 3] [] _ _ rfl rfl rfl) ⟨_, rfl, rfl, h⟩ ?_
    clear h
    rintro k0 E H ⟨x5, rfl, rfl, h⟩
    cases k0 with
    | zero => cases (show (none : Option (Sum (Unit) (Bool))) = some _ from h)
    | succ k0 =>
      rw [spec_l10Row_l0] at h
      refine ACode_seq ?_
      refine ACode_seq (ACode_region ?_)
      refine AOps_q 12 _ rfl rfl rfl (QOp_move _ _ rfl rfl) ?_
      refine AOps_q 13 _ rfl rfl rfl (QOp_move _ _ rfl rfl) ?_
      refine AOps_q 14 _ rfl rfl rfl (QOp_len_sl _ _ _ _ _ _ _ (rowsD_length _) rfl rfl rfl rfl Try.underlying25 rfl) ?_
      refine AOps_q 15 _ rfl rfl rfl (QOp_lss _ _ _ _ _ _ _ rfl rfl rfl) ?_
      refine AOps_nil ?_
      refine ACode_cond _ rfl (fun hb6 => ?_) (fun hb6 => ?_)
      · have h := iteT hb6 h
        refine ACode_skip ?_
        obtain ⟨os24, hss24, hks24⟩ := bindO h
        clear h
        refine ACode_seqJ (fun E' H' => ∃ s24 : Unit, os24 = .inl s24 ∧ Weak 64 G E' H' [(0, .d (.sl none (rowsD p0))), (3, iV x5)] []) ?_ ?_
        · have h := hss24
          clear hss24
          refine ACode_block ?_
          obtain ⟨s22, hss22, hks22⟩ := bindO h
          clear h
          refine ACode_seqJ (fun E' H' => Weak 64 G E' H' [(0, .d (.sl none (rowsD p0))), (3, iV x5), (63, bV s22)] []) ?_ ?_
          · have h := hss22
            clear hss22
            refine (ACode_quiet mixed (by kernel_rfl) ?_)
            refine AQ_q 18 _ rfl rfl rfl (QOp_move _ _ rfl rfl) ?_
            refine AQ_q 19 _ rfl rfl rfl (QOp_move _ _ rfl rfl) ?_
            obtain ⟨hc7, h⟩ := guardO h
            refine AQ_q 20 _ rfl rfl rfl (QOp_indexAddr_sl _ _ _ _ _ _ _ _ rfl Try.underlying25 Try.sizeOf40 hc7.1 (by rw [rowsD_length]; exact hc7.2) rfl rfl) ?_
            refine AQ_q 21 _ rfl rfl rfl (QOp_load_pv _ _ _ _ _ rfl Try.isAgg40 rfl (rowsD_get _ _ [] (by omega))) ?_
            refine AQ_q 22 _ rfl rfl rfl (QOp_len_sl _ _ _ _ _ _ _ (intsD_length _) rfl rfl rfl rfl Try.underlying40 rfl) ?_
            refine AQ_q 23 _ rfl rfl rfl (QOp_neq _ _ _ _ _ _ _ rfl rfl rfl) ?_
            refine AQ_q 24 _ rfl rfl rfl (QOp_move _ _ rfl rfl) ?_
            refine AQ_case 24 _ rfl (fun hb8 => ?_) (fun hb8 => ?_)
            · have h := iteT hb8 h
              refine AQ_skip 25 rfl rfl rfl ?_
              refine AQ_skip 26 rfl rfl rfl ?_
              refine AQ_skip 27 rfl rfl rfl ?_
              refine AQ_skip 28 rfl rfl rfl ?_
              refine AQ_skip 29 rfl rfl rfl ?_
              refine AQ_skip 30 rfl rfl rfl ?_
              refine AQ_skip 31 rfl rfl rfl ?_
              refine AQ_skip 32 rfl rfl rfl ?_
              refine AQ_q 33 _ rfl rfl rfl (QOp_pick_t _ _ _ _ rfl rfl rfl) ?_
              refine AQ_q 34 _ rfl rfl rfl (QOp_move _ _ rfl rfl) ?_
              refine AQ_skip 35 rfl rfl rfl ?_
              refine AQ_skip 36 rfl rfl rfl ?_
              refine AQ_skip 37 rfl rfl rfl ?_
              refine AQ_skip 38 rfl rfl rfl ?_
              refine AQ_skip 39 rfl rfl rfl ?_
              refine AQ_skip 40 rfl rfl rfl ?_
              refine AQ_skip 41 rfl rfl rfl ?_
              refine AQ_skip 42 rfl rfl rfl ?_
              refine AQ_q 43 _ rfl rfl rfl (QOp_pick_t _ _ _ _ rfl rfl rfl) ?_
              refine AQ_q 44 _ rfl rfl rfl (QOp_move _ _ rfl rfl) ?_
              refine AQ_skip 45 rfl rfl rfl ?_
              refine AQ_skip 46 rfl rfl rfl ?_
              refine AQ_skip 47 rfl rfl rfl ?_
              refine AQ_skip 48 rfl rfl rfl ?_
              refine AQ_skip 49 rfl rfl rfl ?_
              refine AQ_skip 50 rfl rfl rfl ?_
              refine AQ_skip 51 rfl rfl rfl ?_
              refine AQ_skip 52 rfl rfl rfl ?_
              refine AQ_skip 53 rfl rfl rfl ?_
              refine AQ_skip 54 rfl rfl rfl ?_
              refine AQ_skip 55 rfl rfl rfl ?_
              refine AQ_skip 56 rfl rfl rfl ?_
              refine AQ_skip 57 rfl rfl rfl ?_
              refine AQ_skip 58 rfl rfl rfl ?_
              refine AQ_skip 59 rfl rfl rfl ?_
              refine AQ_skip 60 rfl rfl rfl ?_
              refine AQ_skip 61 rfl rfl rfl ?_
              refine AQ_skip 62 rfl rfl rfl ?_
              refine AQ_q 63 _ rfl rfl rfl (QOp_pick_t _ _ _ _ rfl rfl rfl) ?_
              refine AQ_nil ?_
              cases h
              exact Weak_keep 0 hm [0, 3, 63] [] _ _ rfl rfl rfl
            · have h := iteF hb8 h
              refine AQ_q 25 _ rfl rfl rfl (QOp_move _ _ rfl rfl) ?_
              refine AQ_q 26 _ rfl rfl rfl (QOp_move _ _ rfl rfl) ?_
              obtain ⟨hc9, h⟩ := guardO h
              refine AQ_q 27 _ rfl rfl rfl (QOp_indexAddr_sl _ _ _ _ _ _ _ _ rfl Try.underlying25 Try.sizeOf40 hc9.1 (by rw [rowsD_length]; exact hc9.2) rfl rfl) ?_
              refine AQ_q 28 _ rfl rfl rfl (QOp_load_pv _ _ _ _ _ rfl Try.isAgg40 rfl (rowsD_get _ _ [] (by omega))) ?_
              obtain ⟨hc10, h⟩ := guardO h
              refine AQ_q 29 _ rfl rfl rfl (QOp_indexAddr_sl _ _ _ _ _ _ _ _ rfl Try.underlying40 Try.sizeOf2 hc10.1 (by rw [intsD_length]; exact hc10.2) rfl rfl) ?_
              refine AQ_q 30 _ rfl rfl rfl (QOp_load_pv _ _ _ _ _ rfl Try.isAgg2 rfl (intsD_get _ _ 0 (by omega))) ?_
              refine AQ_call 31 _ _ _ _ _ _ _ _ _ rfl rfl rfl rfl rfl rfl rfl Try.call37 rfl rfl rfl (spec_l01In_ac ((p0.getD x5.toNat []).getD (0 : Int).toNat 0) (-1000) 1000) ?_
              refine AQ_q 32 _ rfl rfl rfl (QOp_not _ _ _ rfl rfl) ?_
              refine AQ_q 33 _ rfl rfl rfl (QOp_pick_f _ _ _ _ rfl rfl rfl) ?_
              refine AQ_q 34 _ rfl rfl rfl (QOp_move _ _ rfl rfl) ?_
              refine AQ_case 34 _ rfl (fun hb12 => ?_) (fun hb12 => ?_)
              · have h := iteT hb12 h
                refine AQ_skip 35 rfl rfl rfl ?_
                refine AQ_skip 36 rfl rfl rfl ?_
                refine AQ_skip 37 rfl rfl rfl ?_
                refine AQ_skip 38 rfl rfl rfl ?_
                refine AQ_skip 39 rfl rfl rfl ?_
                refine AQ_skip 40 rfl rfl rfl ?_
                refine AQ_skip 41 rfl rfl rfl ?_
                refine AQ_skip 42 rfl rfl rfl ?_
                refine AQ_q 43 _ rfl rfl rfl (QOp_pick_t _ _ _ _ rfl rfl rfl) ?_
                refine AQ_q 44 _ rfl rfl rfl (QOp_move _ _ rfl rfl) ?_
                refine AQ_skip 45 rfl rfl rfl ?_
                refine AQ_skip 46 rfl rfl rfl ?_
                refine AQ_skip 47 rfl rfl rfl ?_
                refine AQ_skip 48 rfl rfl rfl ?_
                refine AQ_skip 49 rfl rfl rfl ?_
                refine AQ_skip 50 rfl rfl rfl ?_
                refine AQ_skip 51 rfl rfl rfl ?_
                refine AQ_skip 52 rfl rfl rfl ?_
                refine AQ_skip 53 rfl rfl rfl ?_
                refine AQ_skip 54 rfl rfl rfl ?_
                refine AQ_skip 55 rfl rfl rfl ?_
                refine AQ_skip 56 rfl rfl rfl ?_
                refine AQ_skip 57 rfl rfl rfl ?_
                refine AQ_skip 58 rfl rfl rfl ?_
                refine AQ_skip 59 rfl rfl rfl ?_
                refine AQ_skip 60 rfl rfl rfl ?_
                refine AQ_skip 61 rfl rfl rfl ?_
                refine AQ_skip 62 rfl rfl rfl ?_
                refine AQ_q 63 _ rfl rfl rfl (QOp_pick_t _ _ _ _ rfl rfl rfl) ?_
                refine AQ_nil ?_
                cases h
                exact Weak_keep 0 hm [0, 3, 63] [] _ _ rfl rfl rfl
              · have h := iteF hb12 h
                refine AQ_q 35 _ rfl rfl rfl (QOp_move _ _ rfl rfl) ?_
                refine AQ_q 36 _ rfl rfl rfl (QOp_move _ _ rfl rfl) ?_
                obtain ⟨hc13, h⟩ := guardO h
                refine AQ_q 37 _ rfl rfl rfl (QOp_indexAddr_sl _ _ _ _ _ _ _ _ rfl Try.underlying25 Try.sizeOf40 hc13.1 (by rw [rowsD_length]; exact hc13.2) rfl rfl) ?_
                refine AQ_q 38 _ rfl rfl rfl (QOp_load_pv _ _ _ _ _ rfl Try.isAgg40 rfl (rowsD_get _ _ [] (by omega))) ?_
                obtain ⟨hc14, h⟩ := guardO h
                refine AQ_q 39 _ rfl rfl rfl (QOp_indexAddr_sl _ _ _ _ _ _ _ _ rfl Try.underlying40 Try.sizeOf2 hc14.1 (by rw [intsD_length]; exact hc14.2) rfl rfl) ?_
                refine AQ_q 40 _ rfl rfl rfl (QOp_load_pv _ _ _ _ _ rfl Try.isAgg2 rfl (intsD_get _ _ 0 (by omega))) ?_
                refine AQ_call 41 _ _ _ _ _ _ _ _ _ rfl rfl rfl rfl rfl rfl rfl Try.call37 rfl rfl rfl (spec_l01In_ac ((p0.getD x5.toNat []).getD (1 : Int).toNat 0) (-1000) 1000) ?_
                refine AQ_q 42 _ rfl rfl rfl (QOp_not _ _ _ rfl rfl) ?_
                refine AQ_q 43 _ rfl rfl rfl (QOp_pick_f _ _ _ _ rfl rfl rfl) ?_
                refine AQ_q 44 _ rfl rfl rfl (QOp_move _ _ rfl rfl) ?_
                refine AQ_case 44 _ rfl (fun hb16 => ?_) (fun hb16 => ?_)
                · have h := iteT hb16 h
                  refine AQ_skip 45 rfl rfl rfl ?_
                  refine AQ_skip 46 rfl rfl rfl ?_
                  refine AQ_skip 47 rfl rfl rfl ?_
                  refine AQ_skip 48 rfl rfl rfl ?_
                  refine AQ_skip 49 rfl rfl rfl ?_
                  refine AQ_skip 50 rfl rfl rfl ?_
                  refine AQ_skip 51 rfl rfl rfl ?_
                  refine AQ_skip 52 rfl rfl rfl ?_
                  refine AQ_skip 53 rfl rfl rfl ?_
                  refine AQ_skip 54 rfl rfl rfl ?_
                  refine AQ_skip 55 rfl rfl rfl ?_
                  refine AQ_skip 56 rfl rfl rfl ?_
                  refine AQ_skip 57 rfl rfl rfl ?_
                  refine AQ_skip 58 rfl rfl rfl ?_
                  refine AQ_skip 59 rfl rfl rfl ?_
                  refine AQ_skip 60 rfl rfl rfl ?_
                  refine AQ_skip 61 rfl rfl rfl ?_
                  refine AQ_skip 62 rfl rfl rfl ?_
                  refine AQ_q 63 _ rfl rfl rfl (QOp_pick_t _ _ _ _ rfl rfl rfl) ?_
                  refine AQ_nil ?_
                  cases h
                  exact Weak_keep 0 hm [0, 3, 63] [] _ _ rfl rfl rfl
                · have h := iteF hb16 h
                  refine AQ_q 45 _ rfl rfl rfl (QOp_move _ _ rfl rfl) ?_
                  refine AQ_q 46 _ rfl rfl rfl (QOp_gtr _ _ _ _ _ _ _ rfl rfl rfl) ?_
                  refine AQ_q 47 _ rfl rfl rfl (QOp_move _ _ rfl rfl) ?_
                  refine AQ_case 47 _ rfl (fun hb17 => ?_) (fun hb17 => ?_)
                  · have h := iteT hb17 h
                    refine AQ_q 48 _ rfl rfl rfl (QOp_move _ _ rfl rfl) ?_
                    refine AQ_q 49 _ rfl rfl rfl (QOp_move _ _ rfl rfl) ?_
                    obtain ⟨hc18, h⟩ := guardO h
                    refine AQ_q 50 _ rfl rfl rfl (QOp_indexAddr_sl _ _ _ _ _ _ _ _ rfl Try.underlying25 Try.sizeOf40 hc18.1 (by rw [rowsD_length]; exact hc18.2) rfl rfl) ?_
                    refine AQ_q 51 _ rfl rfl rfl (QOp_load_pv _ _ _ _ _ rfl Try.isAgg40 rfl (rowsD_get _ _ [] (by omega))) ?_
                    obtain ⟨hc19, h⟩ := guardO h
                    refine AQ_q 52 _ rfl rfl rfl (QOp_indexAddr_sl _ _ _ _ _ _ _ _ rfl Try.underlying40 Try.sizeOf2 hc19.1 (by rw [intsD_length]; exact hc19.2) rfl rfl) ?_
                    refine AQ_q 53 _ rfl rfl rfl (QOp_load_pv _ _ _ _ _ rfl Try.isAgg2 rfl (intsD_get _ _ 0 (by omega))) ?_
                    refine AQ_q 54 _ rfl rfl rfl (QOp_move _ _ rfl rfl) ?_
                    refine AQ_q 55 _ rfl rfl rfl (QOp_move _ _ rfl rfl) ?_
                    refine AQ_q 56 _ rfl rfl rfl (QOp_sub _ _ _ _ _ _ _ rfl rfl rfl) ?_
                    obtain ⟨hc20, h⟩ := guardO h
                    refine AQ_q 57 _ rfl rfl rfl (QOp_indexAddr_sl _ _ _ _ _ _ _ _ rfl Try.underlying25 Try.sizeOf40 hc20.1 (by rw [rowsD_length]; exact hc20.2) rfl rfl) ?_
                    refine AQ_q 58 _ rfl rfl rfl (QOp_load_pv _ _ _ _ _ rfl Try.isAgg40 rfl (rowsD_get _ _ [] (by omega))) ?_
                    obtain ⟨hc21, h⟩ := guardO h
                    refine AQ_q 59 _ rfl rfl rfl (QOp_indexAddr_sl _ _ _ _ _ _ _ _ rfl Try.underlying40 Try.sizeOf2 hc21.1 (by rw [intsD_length]; exact hc21.2) rfl rfl) ?_
                    refine AQ_q 60 _ rfl rfl rfl (QOp_load_pv _ _ _ _ _ rfl Try.isAgg2 rfl (intsD_get _ _ 0 (by omega))) ?_
                    refine AQ_q 61 _ rfl rfl rfl (QOp_leq _ _ _ _ _ _ _ rfl rfl rfl) ?_
                    refine AQ_q 62 _ rfl rfl rfl (QOp_pick_t _ _ _ _ rfl rfl rfl) ?_
                    refine AQ_q 63 _ rfl rfl rfl (QOp_pick_f _ _ _ _ rfl rfl rfl) ?_
                    refine AQ_nil ?_
                    cases h
                    exact Weak_keep 0 hm [0, 3, 63] [] _ _ rfl rfl rfl
                  · have h := iteF hb17 h
                    refine AQ_skip 48 rfl rfl rfl ?_
                    refine AQ_skip 49 rfl rfl rfl ?_
                    refine AQ_skip 50 rfl rfl rfl ?_
                    refine AQ_skip 51 rfl rfl rfl ?_
                    refine AQ_skip 52 rfl rfl rfl ?_
                    refine AQ_skip 53 rfl rfl rfl ?_
                    refine AQ_skip 54 rfl rfl rfl ?_
                    refine AQ_skip 55 rfl rfl rfl ?_
                    refine AQ_skip 56 rfl rfl rfl ?_
                    refine AQ_skip 57 rfl rfl rfl ?_
                    refine AQ_skip 58 rfl rfl rfl ?_
                    refine AQ_skip 59 rfl rfl rfl ?_
                    refine AQ_skip 60 rfl rfl rfl ?_
                    refine AQ_skip 61 rfl rfl rfl ?_
                    refine AQ_q 62 _ rfl rfl rfl (QOp_pick_f _ _ _ _ rfl rfl rfl) ?_
                    refine AQ_q 63 _ rfl rfl rfl (QOp_pick_f _ _ _ _ rfl rfl rfl) ?_
                    refine AQ_nil ?_
                    cases h
                    exact Weak_keep 0 hm [0, 3, 63] [] _ _ rfl rfl rfl
          intro E' H' hw
          refine ACode_weak hw ?_
          have h := hks22
          refine ACode_cond _ rfl (fun hb23 => ?_) (fun hb23 => ?_)
          · have h := iteT hb23 h
            refine ACode_seq (ACode_region ?_)
            refine AOps_q 2 _ rfl rfl rfl (QOp_assign _ _ rfl rfl) ?_
            refine AOps_nil ?_
            refine ACode_ret ?_
            obtain ⟨rr, hz26, h2⟩ := bindO h
            obtain rfl := Option.some.inj h2
            obtain rfl := Option.some.inj (show some rr = some _ from hks24)
            have h := hz26
            cases h
            have h := hks25
            cases h
            exact ⟨_, _, fun r a w h => ⟨r, h⟩, _, _, [], _, (.cons (ResV_tmp _ _ rfl) .nil), rfl, rfl, rfl, rfl, rfl⟩
          · have h := iteF hb23 h
            refine ACode_skip ?_
            cases h
            exact ⟨_, rfl, Weak_keep 0 hm [0, 3] [] _ _ rfl rfl rfl⟩
        rintro E' H' ⟨s24, rfl, hw⟩
        refine ACode_weak hw ?_
        have h := hks24
        refine (ACode_region ?_)
        refine AOps_q 16 _ rfl rfl rfl (QOp_move _ _ rfl rfl) ?_
        refine AOps_q 17 _ rfl rfl rfl (QOp_add _ _ _ _ _ _ _ rfl rfl rfl) ?_
        refine AOps_q 3 _ rfl rfl rfl (QOp_assign _ _ rfl rfl) ?_
        refine AOps_nil ?_
        exact ⟨k0, _, _, Nat.lt_succ_self _, Weak_keep 0 hm [0, 3] [] _ _ rfl rfl rfl, _, rfl, rfl, h⟩
      · have h := iteF hb6 h
        refine ACode_exit ?_
        cases h
        exact ⟨_, rfl, Weak_keep 0 hm [] [] _ _ rfl rfl rfl⟩
  rintro E' H' ⟨s25, rfl, hw⟩
  refine ACode_weak hw ?_
  have h := hks25
  refine ACode_seq (ACode_region ?_)
  refine AOps_q 2 _ rfl rfl rfl (QOp_assign _ _ rfl rfl) ?_
  refine AOps_nil ?_
  refine ACode_ret ?_
  cases h
  exact ⟨_, _, fun r a w h => ⟨r, h⟩, _, _, [], _, (.cons (ResV_tmp _ _ rfl) .nil), rfl, rfl, rfl, rfl, rfl⟩

-- loop.example/g01362/spec.CupsAndCaps
def spec_CupsAndCaps (k : Nat) (p0 : List (List Int)) : Option (Int × Int × Int) :=
  (spec_l10Row k p0).bind fun r1 => (if !r1 then some (0, 0, 2) else (spec_l10Chain k p0 1).bind fun r3 => (spec_l10Chain k p0 (-1)).bind fun r4 => some (r3, r4, 0))
set_option maxRecDepth 100000 in
theorem spec_CupsAndCaps_ac (k : Nat) (p0 : List (List Int)) (r : Int × Int × Int) (h : spec_CupsAndCaps k p0 = some r) : AC Try.prog 14 [.d (.sl none (rowsD p0))] [] (fun res H' => res = [iV r.1, iV r.2.1, iV r.2.2] ∧ H' = []) := by
  refine AC_of_body true Try.func14 rfl Try.ntmps14 (rvs := [.tmp 2, .tmp 3, .tmp 4]) rfl rfl (fun G hG => ?_)
  have hm : G.H.length = 0 := by rw [hG]; rfl
  have hz : zeroG G.H = true := by rw [hG]; rfl
  unfold spec_CupsAndCaps at h
  refine ACode_seq (ACode_region ?_)
  refine AOps_q 2 _ rfl rfl rfl (QOp_assign _ _ rfl rfl) ?_
  refine AOps_q 3 _ rfl rfl rfl (QOp_assign _ _ rfl rfl) ?_
  refine AOps_q 4 _ rfl rfl rfl (QOp_assign _ _ rfl rfl) ?_
  refine AOps_nil ?_
  refine ACode_seq ?_
  refine ACode_seq (ACode_region ?_)
  refine AOps_q 5 _ rfl rfl rfl (QOp_move _ _ rfl rfl) ?_
  obtain ⟨r1, hr1, h⟩ := bindO h
  refine AOps_call [] 6 _ _ _ _ _ _ _ _ _ _ rfl rfl rfl rfl rfl rfl rfl Try.call33 rfl (nodupB_sound _ rfl) rfl rfl rfl (spec_l10Row_ac k p0 _ hr1) ?_
  rintro _ _ ⟨rfl, rfl⟩
  refine ⟨(fun _ h => nomatch h), (allc (trivial) (fun _ h => nomatch h)), AOps_as 6 (v' := bV r1) (H' := []) rfl rfl ?_⟩
  refine AOps_q 7 _ rfl rfl rfl (QOp_not _ _ _ rfl rfl) ?_
  refine AOps_nil ?_
  refine ACode_cond _ rfl (fun hb2 => ?_) (fun hb2 => ?_)
  · have h := iteT hb2 h
    refine ACode_seq (ACode_region ?_)
    refine AOps_q 2 _ rfl rfl rfl (QOp_assign _ _ rfl rfl) ?_
    refine AOps_q 3 _ rfl rfl rfl (QOp_assign _ _ rfl rfl) ?_
    refine AOps_q 4 _ rfl rfl rfl (QOp_assign _ _ rfl rfl) ?_
    refine AOps_nil ?_
    refine ACode_ret ?_
    cases h
    exact ⟨_, _, fun r a w h => ⟨r, h⟩, _, _, [], _, (.cons (ResV_tmp _ _ rfl) (.cons (ResV_tmp _ _ rfl) (.cons (ResV_tmp _ _ rfl) .nil))), rfl, rfl, rfl, rfl, rfl⟩
  · have h := iteF hb2 h
    refine ACode_skip ?_
    refine ACode_seq (ACode_region ?_)
    refine AOps_q 8 _ rfl rfl rfl (QOp_move _ _ rfl rfl) ?_
    obtain ⟨r3, hr3, h⟩ := bindO h
    refine AOps_call [] 9 _ _ _ _ _ _ _ _ _ _ rfl rfl rfl rfl rfl rfl rfl Try.call34 rfl (nodupB_sound _ rfl) rfl rfl rfl (spec_l10Chain_ac k p0 1 _ hr3) ?_
    rintro _ _ ⟨rfl, rfl⟩
    refine ⟨(fun _ h => nomatch h), (allc (trivial) (fun _ h => nomatch h)), AOps_as 9 (v' := iV r3) (H' := []) rfl rfl ?_⟩
    refine AOps_q 10 _ rfl rfl rfl (QOp_move _ _ rfl rfl) ?_
    obtain ⟨r4, hr4, h⟩ := bindO h
    refine AOps_call [] 11 _ _ _ _ _ _ _ _ _ _ rfl rfl rfl rfl rfl rfl rfl Try.call34 rfl (nodupB_sound _ rfl) rfl rfl rfl (spec_l10Chain_ac k p0 (-1) _ hr4) ?_
    rintro _ _ ⟨rfl, rfl⟩
    refine ⟨(fun _ h => nomatch h), (allc (trivial) (fun _ h => nomatch h)), AOps_as 11 (v' := iV r4) (H' := []) rfl rfl ?_⟩
    refine AOps_q 2 _ rfl rfl rfl (QOp_assign _ _ rfl rfl) ?_
    refine AOps_q 3 _ rfl rfl rfl (QOp_assign _ _ rfl rfl) ?_
    refine AOps_q 4 _ rfl rfl rfl (QOp_assign _ _ rfl rfl) ?_
    refine AOps_nil ?_
    refine ACode_ret ?_
    cases h
    exact ⟨_, _, fun r a w h => ⟨r, h⟩, _, _, [], _, (.cons (ResV_tmp _ _ rfl) (.cons (ResV_tmp _ _ rfl) (.cons (ResV_tmp _ _ rfl) .nil))), rfl, rfl, rfl, rfl, rfl⟩

-- loop.example/g01362/impl.size[int64]
def impl_size (p0 : List Int) : Int :=
  (p0.length : Int)
set_option maxRecDepth 100000 in
theorem impl_size_ac (p0 : List Int) : AC Try.prog 45 [.d (.sl none (intsD p0))] [] (fun res H' => res = [iV (impl_size p0)] ∧ H' = []) := by
  refine AC_of_body true Try.func45 rfl Try.ntmps45 (rvs := [.tmp 2]) rfl rfl (fun G hG => ?_)
  have hm : G.H.length = 0 := by rw [hG]; rfl
  have hz : zeroG G.H = true := by rw [hG]; rfl
  obtain ⟨r, h⟩ : ∃ r, impl_size p0 = r := ⟨_, rfl⟩
  rw [h]
  unfold impl_size at h
  refine ACode_seq (ACode_region ?_)
  refine AOps_q 2 _ rfl rfl rfl (QOp_assign _ _ rfl rfl) ?_
  refine AOps_nil ?_
  refine ACode_seq (ACode_region ?_)
  refine AOps_q 3 _ rfl rfl rfl (QOp_move _ _ rfl rfl) ?_
  refine AOps_q 4 _ rfl rfl rfl (QOp_len_sl _ _ _ _ _ _ _ (intsD_length _) rfl rfl rfl rfl Try.underlying40 rfl) ?_
  refine AOps_q 2 _ rfl rfl rfl (QOp_assign _ _ rfl rfl) ?_
  refine AOps_nil ?_
  refine ACode_ret ?_
  cases h
  exact ⟨_, _, fun r a w h => ⟨r, h⟩, _, _, [], _, (.cons (ResV_tmp _ _ rfl) .nil), rfl, rfl, rfl, rfl, rfl⟩

-- slices.IndexFunc[[]int64,int64]
def slices_IndexFunc_l0 (p0 : List Int) (p1 : Int → Option (Bool)) : Nat → Int → Option (Sum (Unit) (Int))
  | 0, _ => none
  | k0 + 1, x1 => (if decide (x1 < (p0.length : Int)) then (if 0 ≤ x1 ∧ x1 < (p0.length : Int) then (p1 (p0.getD x1.toNat 0)).bind fun r4 => (if r4 then some (.inr x1) else slices_IndexFunc_l0 p0 p1 k0 (w64 (x1 + 1))) else none) else some (.inl ()))
def slices_IndexFunc (k : Nat) (p0 : List Int) (p1 : Int → Option (Bool)) : Option (Int) :=
  (slices_IndexFunc_l0 p0 p1 k 0 : Option (Sum (Unit) (Int))).bind fun os6 => (match os6 with | .inl s6 => some (-1) | .inr rr => some rr)
set_option maxRecDepth 100000 in
theorem slices_IndexFunc_ac (k : Nat) (p0 : List Int) (p1 : Int → Option (Bool)) (g_p1 : FuncId) (c_p1 : List D) (hg_p1 : ∀ args w, (callFunc g_p1 args).run Try.prog w = .ok (.enter g_p1 args) w) (hf_p1 : ∀ (a0 : Int) (r : Bool), p1 a0 = some r → AC Try.prog g_p1 ([iV a0] ++ c_p1.map AV.d) [] (fun res H' => res = [bV r] ∧ H' = [])) (r : Int) (h : slices_IndexFunc k p0 p1 = some r) : AC Try.prog 120 [.d (.sl none (intsD p0)), .d (.clo g_p1 c_p1)] [] (fun res H' => res = [iV r] ∧ H' = []) := by
  refine AC_of_body true Try.func120 rfl Try.ntmps120 (rvs := [.tmp 4]) rfl rfl (fun G hG => ?_)
  have hm : G.H.length = 0 := by rw [hG]; rfl
  have hz : zeroG G.H = true := by rw [hG]; rfl
  unfold slices_IndexFunc at h
  refine ACode_seq (ACode_region ?_)
  refine AOps_q 4 _ rfl rfl rfl (QOp_assign _ _ rfl rfl) ?_
  refine AOps_nil ?_
  obtain ⟨os6, hss6, hks6⟩ := bindO h
  clear h
  refine ACode_seqJ (fun E' H' => ∃ s6 : Unit, os6 = .inl s6 ∧ Weak 19 G E' H' [] []) ?_ ?_
  · have h := hss6
    clear hss6
    refine ACode_seq (ACode_region ?_)
    refine AOps_q 6 _ rfl rfl rfl (QOp_move _ _ rfl rfl) ?_
    refine AOps_q 7 _ rfl rfl rfl (QOp_len_sl _ _ _ _ _ _ _ (intsD_length _) rfl rfl rfl rfl Try.underlying40 rfl) ?_
    refine AOps_q 8 _ rfl rfl rfl (QOp_move _ _ rfl rfl) ?_
    refine AOps_nil ?_
    refine ACode_block ?_
    refine ACode_loopW (fun k0 E H => ∃ (x1 : Int), E = [(0, .d (.sl none (intsD p0))), (1, .d (.clo g_p1 c_p1)), (7, iV (p0.length : Int)), (8, iV x1)] ∧ H = [] ∧ slices_IndexFunc_l0 p0 p1 k0 x1 = some os6) k _ _ (Weak_keep 0 hm [0, 1, 7, 8] [] _ _ rfl rfl rfl) ⟨_, rfl, rfl, h⟩ ?_
    clear h
    rintro k0 E H ⟨x1, rfl, rfl, h⟩
    cases k0 with
    | zero => cases (show (none : Option (Sum (Unit) (Int))) = some _ from h)
    | succ k0 =>
      rw [slices_IndexFunc_l0] at h
      refine ACode_seq (ACode_region ?_)
      refine AOps_q 9 _ rfl rfl rfl (QOp_lss _ _ _ _ _ _ _ rfl rfl rfl) ?_
      refine AOps_nil ?_
      refine ACode_seq ?_
      refine ACode_cond _ rfl (fun hb2 => ?_) (fun hb2 => ?_)
      · have h := iteT hb2 h
        refine ACode_skip ?_
        refine ACode_seq ?_
        refine ACode_block ?_
        refine ACode_seq (ACode_region ?_)
        refine AOps_q 10 _ rfl rfl rfl (QOp_move _ _ rfl rfl) ?_
        refine AOps_q 5 _ rfl rfl rfl (QOp_assign _ _ rfl rfl) ?_
        refine AOps_nil ?_
        refine ACode_seq (ACode_region ?_)
        refine AOps_q 11 _ rfl rfl rfl (QOp_move _ _ rfl rfl) ?_
        refine AOps_q 12 _ rfl rfl rfl (QOp_move _ _ rfl rfl) ?_
        refine AOps_q 13 _ rfl rfl rfl (QOp_move _ _ rfl rfl) ?_
        obtain ⟨hc3, h⟩ := guardO h
        refine AOps_q 14 _ rfl rfl rfl (QOp_indexAddr_sl _ _ _ _ _ _ _ _ rfl Try.underlying40 Try.sizeOf2 hc3.1 (by rw [intsD_length]; exact hc3.2) rfl rfl) ?_
        refine AOps_q 15 _ rfl rfl rfl (QOp_load_pv _ _ _ _ _ rfl Try.isAgg2 rfl (intsD_get _ _ 0 (by omega))) ?_
        obtain ⟨r4, hr4, h⟩ := bindO h
        refine AOps_call [] 16 _ _ _ _ _ _ _ _ _ _ rfl rfl rfl rfl rfl rfl rfl hg_p1 rfl (nodupB_sound _ rfl) rfl rfl (viewA_mapD _) (hf_p1 (p0.getD x1.toNat 0) _ hr4) ?_
        rintro _ _ ⟨rfl, rfl⟩
        refine ⟨(fun _ h => nomatch h), (allc (trivial) (fun _ h => nomatch h)), AOps_as 16 (v' := bV r4) (H' := []) rfl rfl ?_⟩
        refine AOps_nil ?_
        refine ACode_cond _ rfl (fun hb5 => ?_) (fun hb5 => ?_)
        · have h := iteT hb5 h
          refine ACode_seq (ACode_region ?_)
          refine AOps_q 17 _ rfl rfl rfl (QOp_move _ _ rfl rfl) ?_
          refine AOps_q 4 _ rfl rfl rfl (QOp_assign _ _ rfl rfl) ?_
          refine AOps_nil ?_
          refine ACode_ret ?_
          cases h
          have h := hks6
          cases h
          exact ⟨_, _, fun r a w h => ⟨r, h⟩, _, _, [], _, (.cons (ResV_tmp _ _ rfl) .nil), rfl, rfl, rfl, rfl, rfl⟩
        · have h := iteF hb5 h
          refine ACode_skip ?_
          refine (ACode_region ?_)
          refine AOps_q 18 _ rfl rfl rfl (QOp_add _ _ _ _ _ _ _ rfl rfl rfl) ?_
          refine AOps_q 8 _ rfl rfl rfl (QOp_move _ _ rfl rfl) ?_
          refine AOps_nil ?_
          exact ⟨k0, _, _, Nat.lt_succ_self _, Weak_keep 0 hm [0, 1, 7, 8] [] _ _ rfl rfl rfl, _, rfl, rfl, h⟩
      · have h := iteF hb2 h
        refine ACode_exit ?_
        cases h
        exact ⟨_, rfl, Weak_keep 0 hm [] [] _ _ rfl rfl rfl⟩
  rintro E' H' ⟨s6, rfl, hw⟩
  refine ACode_weak hw ?_
  have h := hks6
  refine ACode_seq (ACode_region ?_)
  refine AOps_q 4 _ rfl rfl rfl (QOp_assign _ _ rfl rfl) ?_
  refine AOps_nil ?_
  refine ACode_ret ?_
  cases h
  exact ⟨_, _, fun r a w h => ⟨r, h⟩, _, _, [], _, (.cons (ResV_tmp _ _ rfl) .nil), rfl, rfl, rfl, rfl, rfl⟩

-- slices.ContainsFunc[[]int64,int64]
def slices_ContainsFunc (k : Nat) (p0 : List Int) (p1 : Int → Option (Bool)) : Option (Bool) :=
  (slices_IndexFunc k p0 p1).bind fun r1 => some (decide (0 ≤ r1))
set_option maxRecDepth 100000 in
theorem slices_ContainsFunc_ac (k : Nat) (p0 : List Int) (p1 : Int → Option (Bool)) (g_p1 : FuncId) (c_p1 : List D) (hg_p1 : ∀ args w, (callFunc g_p1 args).run Try.prog w = .ok (.enter g_p1 args) w) (hf_p1 : ∀ (a0 : Int) (r : Bool), p1 a0 = some r → AC Try.prog g_p1 ([iV a0] ++ c_p1.map AV.d) [] (fun res H' => res = [bV r] ∧ H' = [])) (r : Bool) (h : slices_ContainsFunc k p0 p1 = some r) : AC Try.prog 93 [.d (.sl none (intsD p0)), .d (.clo g_p1 c_p1)] [] (fun res H' => res = [bV r] ∧ H' = []) := by
  refine AC_of_body true Try.func93 rfl Try.ntmps93 (rvs := [.tmp 4]) rfl rfl (fun G hG => ?_)
  have hm : G.H.length = 0 := by rw [hG]; rfl
  have hz : zeroG G.H = true := by rw [hG]; rfl
  unfold slices_ContainsFunc at h
  refine ACode_seq (ACode_region ?_)
  refine AOps_q 4 _ rfl rfl rfl (QOp_assign _ _ rfl rfl) ?_
  refine AOps_nil ?_
  refine ACode_seq (ACode_region ?_)
  refine AOps_q 5 _ rfl rfl rfl (QOp_move _ _ rfl rfl) ?_
  refine AOps_q 6 _ rfl rfl rfl (QOp_move _ _ rfl rfl) ?_
  obtain ⟨r1, hr1, h⟩ := bindO h
  refine AOps_call [] 7 _ _ _ _ _ _ _ _ _ _ rfl rfl rfl rfl rfl rfl rfl Try.call120 rfl (nodupB_sound _ rfl) rfl rfl rfl (slices_IndexFunc_ac k p0 p1 g_p1 c_p1 hg_p1 hf_p1 _ hr1) ?_
  rintro _ _ ⟨rfl, rfl⟩
  refine ⟨(fun _ h => nomatch h), (allc (trivial) (fun _ h => nomatch h)), AOps_as 7 (v' := iV r1) (H' := []) rfl rfl ?_⟩
  refine AOps_q 8 _ rfl rfl rfl (QOp_geq _ _ _ _ _ _ _ rfl rfl rfl) ?_
  refine AOps_q 4 _ rfl rfl rfl (QOp_assign _ _ rfl rfl) ?_
  refine AOps_nil ?_
  refine ACode_ret ?_
  cases h
  exact ⟨_, _, fun r a w h => ⟨r, h⟩, _, _, [], _, (.cons (ResV_tmp _ _ rfl) .nil), rfl, rfl, rfl, rfl, rfl⟩

-- loop.example/g01362/impl.in
def impl_in (p0 : Int) (p1 : Int) (p2 : Int) : Bool :=
  letO (if decide (p1 ≤ p0) then decide (p0 ≤ p2) else false) fun (s2 : Bool) => s2
set_option maxRecDepth 100000 in
theorem impl_in_ac (p0 : Int) (p1 : Int) (p2 : Int) : AC Try.prog 44 [iV p0, iV p1, iV p2] [] (fun res H' => res = [bV (impl_in p0 p1 p2)] ∧ H' = []) := by
  refine AC_of_body true Try.func44 rfl Try.ntmps44 (rvs := [.tmp 6]) rfl rfl (fun G hG => ?_)
  have hm : G.H.length = 0 := by rw [hG]; rfl
  have hz : zeroG G.H = true := by rw [hG]; rfl
  obtain ⟨r, h⟩ : ∃ r, impl_in p0 p1 p2 = r := ⟨_, rfl⟩
  rw [h]
  unfold impl_in at h
  refine ACode_seq (ACode_region ?_)
  refine AOps_q 6 _ rfl rfl rfl (QOp_assign _ _ rfl rfl) ?_
  refine AOps_nil ?_
  obtain ⟨s2, hss2, hks2⟩ := letS h
  clear h
  refine ACode_seqJ (fun E' H' => Weak 15 G E' H' [(6, bV s2)] []) ?_ ?_
  · have h := hss2
    clear hss2
    refine (ACode_region ?_)
    refine AOps_q 7 _ rfl rfl rfl (QOp_move _ _ rfl rfl) ?_
    refine AOps_q 8 _ rfl rfl rfl (QOp_move _ _ rfl rfl) ?_
    refine AOps_q 9 _ rfl rfl rfl (QOp_geq _ _ _ _ _ _ _ rfl rfl rfl) ?_
    refine AOps_q 10 _ rfl rfl rfl (QOp_move _ _ rfl rfl) ?_
    refine AOps_case 10 _ rfl (fun hb1 => ?_) (fun hb1 => ?_)
    · have h := iteT hb1 h
      refine AOps_q 11 _ rfl rfl rfl (QOp_move _ _ rfl rfl) ?_
      refine AOps_q 12 _ rfl rfl rfl (QOp_move _ _ rfl rfl) ?_
      refine AOps_q 13 _ rfl rfl rfl (QOp_leq _ _ _ _ _ _ _ rfl rfl rfl) ?_
      refine AOps_q 14 _ rfl rfl rfl (QOp_pick_t _ _ _ _ rfl rfl rfl) ?_
      refine AOps_q 6 _ rfl rfl rfl (QOp_assign _ _ rfl rfl) ?_
      refine AOps_nil ?_
      cases h
      exact Weak_keep 0 hm [6] [] _ _ rfl rfl rfl
    · have h := iteF hb1 h
      refine AOps_skip 11 rfl rfl rfl ?_
      refine AOps_skip 12 rfl rfl rfl ?_
      refine AOps_skip 13 rfl rfl rfl ?_
      refine AOps_q 14 _ rfl rfl rfl (QOp_pick_f _ _ _ _ rfl rfl rfl) ?_
      refine AOps_q 6 _ rfl rfl rfl (QOp_assign _ _ rfl rfl) ?_
      refine AOps_nil ?_
      cases h
      exact Weak_keep 0 hm [6] [] _ _ rfl rfl rfl
  intro E' H' hw
  refine ACode_weak hw ?_
  have h := hks2
  refine ACode_ret ?_
  cases h
  exact ⟨_, _, fun r a w h => ⟨r, h⟩, _, _, [], _, (.cons (ResV_tmp _ _ rfl) .nil), rfl, rfl, rfl, rfl, rfl⟩

-- loop.example/g01362/impl.areIn$1
def impl_areIn_c1 (p0 : Int) (p1 : Int) (p2 : Int) : Bool :=
  !(impl_in p0 p1 p2)
set_option maxRecDepth 100000 in
theorem impl_areIn_c1_ac (p0 : Int) (p1 : Int) (p2 : Int) : AC Try.prog 94 [iV p0, .d (.pv ([iD p1]) 0), .d (.pv ([iD p2]) 0)] [] (fun res H' => res = [bV (impl_areIn_c1 p0 p1 p2)] ∧ H' = []) := by
  refine AC_of_body true Try.func94 rfl Try.ntmps94 (rvs := [.tmp 4]) rfl rfl (fun G hG => ?_)
  have hm : G.H.length = 0 := by rw [hG]; rfl
  have hz : zeroG G.H = true := by rw [hG]; rfl
  obtain ⟨r, h⟩ : ∃ r, impl_areIn_c1 p0 p1 p2 = r := ⟨_, rfl⟩
  rw [h]
  unfold impl_areIn_c1 at h
  refine ACode_seq (ACode_region ?_)
  refine AOps_q 4 _ rfl rfl rfl (QOp_assign _ _ rfl rfl) ?_
  refine AOps_nil ?_
  refine ACode_seq (ACode_region ?_)
  refine AOps_q 5 _ rfl rfl rfl (QOp_move _ _ rfl rfl) ?_
  refine AOps_q 6 _ rfl rfl rfl (QOp_load_pv _ _ _ _ _ rfl Try.isAgg2 rfl rfl) ?_
  refine AOps_q 7 _ rfl rfl rfl (QOp_load_pv _ _ _ _ _ rfl Try.isAgg2 rfl rfl) ?_
  refine AOps_call [] 8 _ _ _ _ _ _ _ _ _ _ rfl rfl rfl rfl rfl rfl rfl Try.call44 rfl (nodupB_sound _ rfl) rfl rfl rfl (impl_in_ac p0 p1 p2) ?_
  rintro _ _ ⟨rfl, rfl⟩
  refine ⟨(fun _ h => nomatch h), (allc (trivial) (fun _ h => nomatch h)), AOps_as 8 (v' := bV (impl_in p0 p1 p2)) (H' := []) rfl rfl ?_⟩
  refine AOps_q 9 _ rfl rfl rfl (QOp_not _ _ _ rfl rfl) ?_
  refine AOps_q 4 _ rfl rfl rfl (QOp_assign _ _ rfl rfl) ?_
  refine AOps_nil ?_
  refine ACode_ret ?_
  cases h
  exact ⟨_, _, fun r a w h => ⟨r, h⟩, _, _, [], _, (.cons (ResV_tmp _ _ rfl) .nil), rfl, rfl, rfl, rfl, rfl⟩

-- loop.example/g01362/impl.areIn
def impl_areIn (k : Nat) (p0 : List Int) (p1 : Int) (p2 : Int) (p3 : Int) : Option (Bool) :=
  ((if decide ((impl_size p0) = p1) then (slices_ContainsFunc k p0 (fun a0 => some (impl_areIn_c1 a0 p2 p3))).bind fun r3 => some (!r3) else some false) : Option (Bool)).bind fun s4 => some s4
set_option maxRecDepth 100000 in
theorem impl_areIn_ac (k : Nat) (p0 : List Int) (p1 : Int) (p2 : Int) (p3 : Int) (r : Bool) (h : impl_areIn k p0 p1 p2 p3 = some r) : AC Try.prog 69 [.d (.sl none (intsD p0)), iV p1, iV p2, iV p3] [] (fun res H' => res = [bV r] ∧ H' = []) := by
  refine AC_of_body true Try.func69 rfl Try.ntmps69 (rvs := [.tmp 8]) rfl rfl (fun G hG => ?_)
  have hm : G.H.length = 0 := by rw [hG]; rfl
  have hz : zeroG G.H = true := by rw [hG]; rfl
  unfold impl_areIn at h
  refine ACode_seq (ACode_region ?_)
  refine AOps_boxI 6 _ _ (iD p2) _ rfl (fun c hc => by cases hc with | head => rfl | tail _ h => cases h) rfl rfl rfl rfl rfl ?_
  refine AOps_boxI 7 _ _ (iD p3) _ rfl (fun c hc => by cases hc with | head => rfl | tail _ h => cases h) rfl rfl rfl rfl rfl ?_
  refine AOps_q 8 _ rfl rfl rfl (QOp_assign _ _ rfl rfl) ?_
  refine AOps_nil ?_
  obtain ⟨s4, hss4, hks4⟩ := bindO h
  clear h
  refine ACode_seqJ (fun E' H' => Weak 19 G E' H' [(8, bV s4)] []) ?_ ?_
  · have h := hss4
    clear hss4
    refine (ACode_region ?_)
    refine AOps_q 9 _ rfl rfl rfl (QOp_move _ _ rfl rfl) ?_
    refine AOps_call [] 10 _ _ _ _ _ _ _ _ _ _ rfl rfl rfl rfl rfl rfl rfl Try.call45 rfl (nodupB_sound _ rfl) rfl rfl rfl (impl_size_ac p0) ?_
    rintro _ _ ⟨rfl, rfl⟩
    refine ⟨(fun _ h => nomatch h), (allc (trivial) (fun _ h => nomatch h)), AOps_as 10 (v' := iV (impl_size p0)) (H' := []) rfl rfl ?_⟩
    refine AOps_q 11 _ rfl rfl rfl (QOp_move _ _ rfl rfl) ?_
    refine AOps_q 12 _ rfl rfl rfl (QOp_eql _ _ _ _ _ _ _ rfl rfl rfl) ?_
    refine AOps_q 13 _ rfl rfl rfl (QOp_move _ _ rfl rfl) ?_
    refine AOps_case 13 _ rfl (fun hb2 => ?_) (fun hb2 => ?_)
    · have h := iteT hb2 h
      refine AOps_q 14 _ rfl rfl rfl (QOp_move _ _ rfl rfl) ?_
      refine AOps_q 15 _ rfl rfl rfl (QOp_makeFuncD _ _ _ _ rfl rfl rfl) ?_
      obtain ⟨r3, hr3, h⟩ := bindO h
      refine AOps_call [] 16 _ _ _ _ _ _ _ _ _ _ rfl rfl rfl rfl rfl rfl rfl Try.call93 rfl (nodupB_sound _ rfl) rfl rfl rfl (slices_ContainsFunc_ac k p0 (fun a0 => some (impl_areIn_c1 a0 p2 p3)) 94 ([.pv ([iD p2]) 0, .pv ([iD p3]) 0]) Try.call94 (fun a0 r h => by cases h; exact impl_areIn_c1_ac a0 p2 p3) _ hr3) ?_
      rintro _ _ ⟨rfl, rfl⟩
      refine ⟨(fun _ h => nomatch h), (allc (trivial) (fun _ h => nomatch h)), AOps_as 16 (v' := bV r3) (H' := []) rfl rfl ?_⟩
      refine AOps_q 17 _ rfl rfl rfl (QOp_not _ _ _ rfl rfl) ?_
      refine AOps_q 18 _ rfl rfl rfl (QOp_pick_t _ _ _ _ rfl rfl rfl) ?_
      refine AOps_q 8 _ rfl rfl rfl (QOp_assign _ _ rfl rfl) ?_
      refine AOps_nil ?_
      cases h
      exact Weak_keep 0 hm [8] [] _ _ rfl rfl rfl
    · have h := iteF hb2 h
      refine AOps_skip 14 rfl rfl rfl ?_
      refine AOps_skip 15 rfl rfl rfl ?_
      refine AOps_skip 16 rfl rfl rfl ?_
      refine AOps_skip 17 rfl rfl rfl ?_
      refine AOps_q 18 _ rfl rfl rfl (QOp_pick_f _ _ _ _ rfl rfl rfl) ?_
      refine AOps_q 8 _ rfl rfl rfl (QOp_assign _ _ rfl rfl) ?_
      refine AOps_nil ?_
      cases h
      exact Weak_keep 0 hm [8] [] _ _ rfl rfl rfl
  intro E' H' hw
  refine ACode_weak hw ?_
  have h := hks4
  refine ACode_ret ?_
  cases h
  exact ⟨_, _, fun r a w h => ⟨r, h⟩, _, _, [], _, (.cons (ResV_tmp _ _ rfl) .nil), rfl, rfl, rfl, rfl, rfl⟩

-- loop.example/g01362/impl.size[[]int64]
def impl_size_R (p0 : List (List Int)) : Int :=
  (p0.length : Int)
set_option maxRecDepth 100000 in
theorem impl_size_R_ac (p0 : List (List Int)) : AC Try.prog 49 [.d (.sl none (rowsD p0))] [] (fun res H' => res = [iV (impl_size_R p0)] ∧ H' = []) := by
  refine AC_of_body true Try.func49 rfl Try.ntmps49 (rvs := [.tmp 2]) rfl rfl (fun G hG => ?_)
  have hm : G.H.length = 0 := by rw [hG]; rfl
  have hz : zeroG G.H = true := by rw [hG]; rfl
  obtain ⟨r, h⟩ : ∃ r, impl_size_R p0 = r := ⟨_, rfl⟩
  rw [h]
  unfold impl_size_R at h
  refine ACode_seq (ACode_region ?_)
  refine AOps_q 2 _ rfl rfl rfl (QOp_assign _ _ rfl rfl) ?_
  refine AOps_nil ?_
  refine ACode_seq (ACode_region ?_)
  refine AOps_q 3 _ rfl rfl rfl (QOp_move _ _ rfl rfl) ?_
  refine AOps_q 4 _ rfl rfl rfl (QOp_len_sl _ _ _ _ _ _ _ (rowsD_length _) rfl rfl rfl rfl Try.underlying25 rfl) ?_
  refine AOps_q 2 _ rfl rfl rfl (QOp_assign _ _ rfl rfl) ?_
  refine AOps_nil ?_
  refine ACode_ret ?_
  cases h
  exact ⟨_, _, fun r a w h => ⟨r, h⟩, _, _, [], _, (.cons (ResV_tmp _ _ rfl) .nil), rfl, rfl, rfl, rfl, rfl⟩

-- loop.example/g01362/impl.isRow
def impl_isRow_l0 (k : Nat) (p0 : List (List Int)) : Nat → Int → Option (Sum (Unit) (Bool))
  | 0, _ => none
  | k0 + 1, x1 => (if decide (x1 < (p0.length : Int)) then ((if 0 ≤ x1 ∧ x1 < (p0.length : Int) then ((impl_areIn k (p0.getD x1.toNat []) 2 (-1000) 1000).bind fun r4 => (if !r4 then some true else (if decide (0 < x1) then (if 0 ≤ w64 (x1 - 1) ∧ w64 (x1 - 1) < (p0.length : Int) then (if 0 ≤ (0 : Int) ∧ (0 : Int) < ((p0.getD (w64 (x1 - 1)).toNat []).length : Int) then (if 0 ≤ (0 : Int) ∧ (0 : Int) < ((p0.getD x1.toNat []).length : Int) then some (decide (((p0.getD x1.toNat []).getD (0 : Int).toNat 0) ≤ ((p0.getD (w64 (x1 - 1)).toNat []).getD (0 : Int).toNat 0))) else none) else none) else none) else some false)) : Option (Bool)).bind fun s10 => (if s10 then (some (.inr false)).bind fun rr => some (.inr rr) else some (.inl ())) else none) : Option (Sum (Unit) (Sum (Unit) (Bool)))).bind fun os12 => (match os12 with | .inl s12 => impl_isRow_l0 k p0 k0 (w64 (x1 + 1)) | .inr rr => some rr) else some (.inl ()))
def impl_isRow (k : Nat) (p0 : List (List Int)) : Option (Bool) :=
  (impl_isRow_l0 k p0 k 0 : Option (Sum (Unit) (Bool))).bind fun os13 => (match os13 with | .inl s13 => some (impl_in (impl_size_R p0) 1 17) | .inr rr => some rr)
set_option maxRecDepth 100000 in
theorem impl_isRow_ac (k : Nat) (p0 : List (List Int)) (r : Bool) (h : impl_isRow k p0 = some r) : AC Try.prog 35 [.d (.sl none (rowsD p0))] [] (fun res H' => res = [bV r] ∧ H' = []) := by
  refine AC_of_body true Try.func35 rfl Try.ntmps35 (rvs := [.tmp 2]) rfl rfl (fun G hG => ?_)
  have hm : G.H.length = 0 := by rw [hG]; rfl
  have hz : zeroG G.H = true := by rw [hG]; rfl
  unfold impl_isRow at h
  refine ACode_seq (ACode_region ?_)
  refine AOps_q 2 _ rfl rfl rfl (QOp_assign _ _ rfl rfl) ?_
  refine AOps_nil ?_
  obtain ⟨os13, hss13, hks13⟩ := bindO h
  clear h
  refine ACode_seqJ (fun E' H' => ∃ s13 : Unit, os13 = .inl s13 ∧ Weak 36 G E' H' [(0, .d (.sl none (rowsD p0)))] []) ?_ ?_
  · have h := hss13
    clear hss13
    refine ACode_seq (ACode_region ?_)
    refine AOps_q 5 _ rfl rfl rfl (QOp_move _ _ rfl rfl) ?_
    refine AOps_q 6 _ rfl rfl rfl (QOp_len_sl _ _ _ _ _ _ _ (rowsD_length _) rfl rfl rfl rfl Try.underlying25 rfl) ?_
    refine AOps_q 7 _ rfl rfl rfl (QOp_move _ _ rfl rfl) ?_
    refine AOps_nil ?_
    refine ACode_block ?_
    refine ACode_loopW (fun k0 E H => ∃ (x1 : Int), E = [(0, .d (.sl none (rowsD p0))), (5, .d (.sl none (rowsD p0))), (6, iV (p0.length : Int)), (7, iV x1)] ∧ H = [] ∧ impl_isRow_l0 k p0 k0 x1 = some os13) k _ _ (Weak_keep 0 hm [0, 5, 6, 7] [] _ _ rfl rfl rfl) ⟨_, rfl, rfl, h⟩ ?_
    clear h
    rintro k0 E H ⟨x1, rfl, rfl, h⟩
    cases k0 with
    | zero => cases (show (none : Option (Sum (Unit) (Bool))) = some _ from h)
    | succ k0 =>
      rw [impl_isRow_l0] at h
      refine ACode_seq (ACode_region ?_)
      refine AOps_q 8 _ rfl rfl rfl (QOp_lss _ _ _ _ _ _ _ rfl rfl rfl) ?_
      refine AOps_nil ?_
      refine ACode_seq ?_
      refine ACode_cond _ rfl (fun hb2 => ?_) (fun hb2 => ?_)
      · have h := iteT hb2 h
        refine ACode_skip ?_
        obtain ⟨os12, hss12, hks12⟩ := bindO h
        clear h
        refine ACode_seqJ (fun E' H' => ∃ s12 : Unit, os12 = .inl s12 ∧ Weak 36 G E' H' [(0, .d (.sl none (rowsD p0))), (5, .d (.sl none (rowsD p0))), (6, iV (p0.length : Int)), (7, iV x1)] []) ?_ ?_
        · have h := hss12
          clear hss12
          refine ACode_block ?_
          refine ACode_seq (ACode_region ?_)
          refine AOps_q 9 _ rfl rfl rfl (QOp_move _ _ rfl rfl) ?_
          obtain ⟨hc3, h⟩ := guardO h
          refine AOps_q 10 _ rfl rfl rfl (QOp_indexAddr_sl _ _ _ _ _ _ _ _ rfl Try.underlying25 Try.sizeOf40 hc3.1 (by rw [rowsD_length]; exact hc3.2) rfl rfl) ?_
          refine AOps_q 11 _ rfl rfl rfl (QOp_load_pv _ _ _ _ _ rfl Try.isAgg40 rfl (rowsD_get _ _ [] (by omega))) ?_
          refine AOps_q 3 _ rfl rfl rfl (QOp_assign _ _ rfl rfl) ?_
          refine AOps_q 4 _ rfl rfl rfl (QOp_assign _ _ rfl rfl) ?_
          refine AOps_nil ?_
          obtain ⟨s10, hss10, hks10⟩ := bindO h
          clear h
          refine ACode_seqJ (fun E' H' => Weak 36 G E' H' [(0, .d (.sl none (rowsD p0))), (5, .d (.sl none (rowsD p0))), (6, iV (p0.length : Int)), (7, iV x1), (31, bV s10)] []) ?_ ?_
          · have h := hss10
            clear hss10
            refine (ACode_quiet mixed (by kernel_rfl) ?_)
            refine AQ_q 12 _ rfl rfl rfl (QOp_move _ _ rfl rfl) ?_
            obtain ⟨r4, hr4, h⟩ := bindO h
            refine AQ_call 13 _ _ _ _ _ _ _ _ _ rfl rfl rfl rfl rfl rfl rfl Try.call69 rfl rfl rfl (impl_areIn_ac k (p0.getD x1.toNat []) 2 (-1000) 1000 _ hr4) ?_
            refine AQ_q 14 _ rfl rfl rfl (QOp_not _ _ _ rfl rfl) ?_
            refine AQ_q 15 _ rfl rfl rfl (QOp_move _ _ rfl rfl) ?_
            refine AQ_case 15 _ rfl (fun hb5 => ?_) (fun hb5 => ?_)
            · have h := iteT hb5 h
              refine AQ_skip 16 rfl rfl rfl ?_
              refine AQ_skip 17 rfl rfl rfl ?_
              refine AQ_skip 18 rfl rfl rfl ?_
              refine AQ_skip 19 rfl rfl rfl ?_
              refine AQ_skip 20 rfl rfl rfl ?_
              refine AQ_skip 21 rfl rfl rfl ?_
              refine AQ_skip 22 rfl rfl rfl ?_
              refine AQ_skip 23 rfl rfl rfl ?_
              refine AQ_skip 24 rfl rfl rfl ?_
              refine AQ_skip 25 rfl rfl rfl ?_
              refine AQ_skip 26 rfl rfl rfl ?_
              refine AQ_skip 27 rfl rfl rfl ?_
              refine AQ_skip 28 rfl rfl rfl ?_
              refine AQ_skip 29 rfl rfl rfl ?_
              refine AQ_skip 30 rfl rfl rfl ?_
              refine AQ_q 31 _ rfl rfl rfl (QOp_pick_t _ _ _ _ rfl rfl rfl) ?_
              refine AQ_nil ?_
              cases h
              exact Weak_keep 0 hm [0, 5, 6, 7, 31] [] _ _ rfl rfl rfl
            · have h := iteF hb5 h
              refine AQ_q 16 _ rfl rfl rfl (QOp_move _ _ rfl rfl) ?_
              refine AQ_q 17 _ rfl rfl rfl (QOp_gtr _ _ _ _ _ _ _ rfl rfl rfl) ?_
              refine AQ_q 18 _ rfl rfl rfl (QOp_move _ _ rfl rfl) ?_
              refine AQ_case 18 _ rfl (fun hb6 => ?_) (fun hb6 => ?_)
              · have h := iteT hb6 h
                refine AQ_q 19 _ rfl rfl rfl (QOp_move _ _ rfl rfl) ?_
                refine AQ_q 20 _ rfl rfl rfl (QOp_move _ _ rfl rfl) ?_
                refine AQ_q 21 _ rfl rfl rfl (QOp_sub _ _ _ _ _ _ _ rfl rfl rfl) ?_
                obtain ⟨hc7, h⟩ := guardO h
                refine AQ_q 22 _ rfl rfl rfl (QOp_indexAddr_sl _ _ _ _ _ _ _ _ rfl Try.underlying25 Try.sizeOf40 hc7.1 (by rw [rowsD_length]; exact hc7.2) rfl rfl) ?_
                refine AQ_q 23 _ rfl rfl rfl (QOp_load_pv _ _ _ _ _ rfl Try.isAgg40 rfl (rowsD_get _ _ [] (by omega))) ?_
                obtain ⟨hc8, h⟩ := guardO h
                refine AQ_q 24 _ rfl rfl rfl (QOp_indexAddr_sl _ _ _ _ _ _ _ _ rfl Try.underlying40 Try.sizeOf2 hc8.1 (by rw [intsD_length]; exact hc8.2) rfl rfl) ?_
                refine AQ_q 25 _ rfl rfl rfl (QOp_load_pv _ _ _ _ _ rfl Try.isAgg2 rfl (intsD_get _ _ 0 (by omega))) ?_
                refine AQ_q 26 _ rfl rfl rfl (QOp_move _ _ rfl rfl) ?_
                obtain ⟨hc9, h⟩ := guardO h
                refine AQ_q 27 _ rfl rfl rfl (QOp_indexAddr_sl _ _ _ _ _ _ _ _ rfl Try.underlying40 Try.sizeOf2 hc9.1 (by rw [intsD_length]; exact hc9.2) rfl rfl) ?_
                refine AQ_q 28 _ rfl rfl rfl (QOp_load_pv _ _ _ _ _ rfl Try.isAgg2 rfl (intsD_get _ _ 0 (by omega))) ?_
                refine AQ_q 29 _ rfl rfl rfl (QOp_geq _ _ _ _ _ _ _ rfl rfl rfl) ?_
                refine AQ_q 30 _ rfl rfl rfl (QOp_pick_t _ _ _ _ rfl rfl rfl) ?_
                refine AQ_q 31 _ rfl rfl rfl (QOp_pick_f _ _ _ _ rfl rfl rfl) ?_
                refine AQ_nil ?_
                cases h
                exact Weak_keep 0 hm [0, 5, 6, 7, 31] [] _ _ rfl rfl rfl
              · have h := iteF hb6 h
                refine AQ_skip 19 rfl rfl rfl ?_
                refine AQ_skip 20 rfl rfl rfl ?_
                refine AQ_skip 21 rfl rfl rfl ?_
                refine AQ_skip 22 rfl rfl rfl ?_
                refine AQ_skip 23 rfl rfl rfl ?_
                refine AQ_skip 24 rfl rfl rfl ?_
                refine AQ_skip 25 rfl rfl rfl ?_
                refine AQ_skip 26 rfl rfl rfl ?_
                refine AQ_skip 27 rfl rfl rfl ?_
                refine AQ_skip 28 rfl rfl rfl ?_
                refine AQ_skip 29 rfl rfl rfl ?_
                refine AQ_q 30 _ rfl rfl rfl (QOp_pick_f _ _ _ _ rfl rfl rfl) ?_
                refine AQ_q 31 _ rfl rfl rfl (QOp_pick_f _ _ _ _ rfl rfl rfl) ?_
                refine AQ_nil ?_
                cases h
                exact Weak_keep 0 hm [0, 5, 6, 7, 31] [] _ _ rfl rfl rfl
          intro E' H' hw
          refine ACode_weak hw ?_
          have h := hks10
          refine ACode_cond _ rfl (fun hb11 => ?_) (fun hb11 => ?_)
          · have h := iteT hb11 h
            refine ACode_seq (ACode_region ?_)
            refine AOps_q 2 _ rfl rfl rfl (QOp_assign _ _ rfl rfl) ?_
            refine AOps_nil ?_
            refine ACode_ret ?_
            obtain ⟨rr, hz16, h2⟩ := bindO h
            obtain rfl := Option.some.inj h2
            obtain rfl := Option.some.inj (show some rr = some _ from hks12)
            have h := hz16
            cases h
            have h := hks13
            cases h
            exact ⟨_, _, fun r a w h => ⟨r, h⟩, _, _, [], _, (.cons (ResV_tmp _ _ rfl) .nil), rfl, rfl, rfl, rfl, rfl⟩
          · have h := iteF hb11 h
            refine ACode_skip ?_
            cases h
            exact ⟨_, rfl, Weak_keep 0 hm [0, 5, 6, 7] [] _ _ rfl rfl rfl⟩
        rintro E' H' ⟨s12, rfl, hw⟩
        refine ACode_weak hw ?_
        have h := hks12
        refine (ACode_region ?_)
        refine AOps_q 32 _ rfl rfl rfl (QOp_add _ _ _ _ _ _ _ rfl rfl rfl) ?_
        refine AOps_q 7 _ rfl rfl rfl (QOp_move _ _ rfl rfl) ?_
        refine AOps_nil ?_
        exact ⟨k0, _, _, Nat.lt_succ_self _, Weak_keep 0 hm [0, 5, 6, 7] [] _ _ rfl rfl rfl, _, rfl, rfl, h⟩
      · have h := iteF hb2 h
        refine ACode_exit ?_
        cases h
        exact ⟨_, rfl, Weak_keep 0 hm [0] [] _ _ rfl rfl rfl⟩
  rintro E' H' ⟨s13, rfl, hw⟩
  refine ACode_weak hw ?_
  have h := hks13
  refine ACode_seq (ACode_region ?_)
  refine AOps_q 33 _ rfl rfl rfl (QOp_move _ _ rfl rfl) ?_
  refine AOps_call [] 34 _ _ _ _ _ _ _ _ _ _ rfl rfl rfl rfl rfl rfl rfl Try.call49 rfl (nodupB_sound _ rfl) rfl rfl rfl (impl_size_R_ac p0) ?_
  rintro _ _ ⟨rfl, rfl⟩
  refine ⟨(fun _ h => nomatch h), (allc (trivial) (fun _ h => nomatch h)), AOps_as 34 (v' := iV (impl_size_R p0)) (H' := []) rfl rfl ?_⟩
  refine AOps_call [] 35 _ _ _ _ _ _ _ _ _ _ rfl rfl rfl rfl rfl rfl rfl Try.call44 rfl (nodupB_sound _ rfl) rfl rfl rfl (impl_in_ac (impl_size_R p0) 1 17) ?_
  rintro _ _ ⟨rfl, rfl⟩
  refine ⟨(fun _ h => nomatch h), (allc (trivial) (fun _ h => nomatch h)), AOps_as 35 (v' := bV (impl_in (impl_size_R p0) 1 17)) (H' := []) rfl rfl ?_⟩
  refine AOps_q 2 _ rfl rfl rfl (QOp_assign _ _ rfl rfl) ?_
  refine AOps_nil ?_
  refine ACode_ret ?_
  cases h
  exact ⟨_, _, fun r a w h => ⟨r, h⟩, _, _, [], _, (.cons (ResV_tmp _ _ rfl) .nil), rfl, rfl, rfl, rfl, rfl⟩

-- loop.example/g01362/impl.bends
def impl_bends (p0 : List Int) (p1 : List Int) (p2 : List Int) : Option (Int) :=
  (if 0 ≤ (1 : Int) ∧ (1 : Int) < (p2.length : Int) then (if 0 ≤ (1 : Int) ∧ (1 : Int) < (p1.length : Int) then (if 0 ≤ (0 : Int) ∧ (0 : Int) < (p1.length : Int) then (if 0 ≤ (0 : Int) ∧ (0 : Int) < (p0.length : Int) then (if 0 ≤ (1 : Int) ∧ (1 : Int) < (p1.length : Int) then (if 0 ≤ (1 : Int) ∧ (1 : Int) < (p0.length : Int) then (if 0 ≤ (0 : Int) ∧ (0 : Int) < (p2.length : Int) then (if 0 ≤ (0 : Int) ∧ (0 : Int) < (p1.length : Int) then some (w64 ((w64 ((w64 ((p2.getD (1 : Int).toNat 0) - (p1.getD (1 : Int).toNat 0))) * (w64 ((p1.getD (0 : Int).toNat 0) - (p0.getD (0 : Int).toNat 0))))) - (w64 ((w64 ((p1.getD (1 : Int).toNat 0) - (p0.getD (1 : Int).toNat 0))) * (w64 ((p2.getD (0 : Int).toNat 0) - (p1.getD (0 : Int).toNat 0))))))) else none) else none) else none) else none) else none) else none) else none) else none)
set_option maxRecDepth 100000 in
theorem impl_bends_ac (p0 : List Int) (p1 : List Int) (p2 : List Int) (r : Int) (h : impl_bends p0 p1 p2 = some r) : AC Try.prog 70 [.d (.sl none (intsD p0)), .d (.sl none (intsD p1)), .d (.sl none (intsD p2))] [] (fun res H' => res = [iV r] ∧ H' = []) := by
  refine AC_of_body true Try.func70 rfl Try.ntmps70 (rvs := [.tmp 6]) rfl rfl (fun G hG => ?_)
  have hm : G.H.length = 0 := by rw [hG]; rfl
  have hz : zeroG G.H = true := by rw [hG]; rfl
  unfold impl_bends at h
  refine ACode_seq (ACode_region ?_)
  refine AOps_q 6 _ rfl rfl rfl (QOp_assign _ _ rfl rfl) ?_
  refine AOps_nil ?_
  refine ACode_seq (ACode_quiet mixed (by kernel_rfl) ?_)
  refine AQ_q 7 _ rfl rfl rfl (QOp_move _ _ rfl rfl) ?_
  obtain ⟨hc1, h⟩ := guardO h
  refine AQ_q 8 _ rfl rfl rfl (QOp_indexAddr_sl _ _ _ _ _ _ _ _ rfl Try.underlying40 Try.sizeOf2 hc1.1 (by rw [intsD_length]; exact hc1.2) rfl rfl) ?_
  refine AQ_q 9 _ rfl rfl rfl (QOp_load_pv _ _ _ _ _ rfl Try.isAgg2 rfl (intsD_get _ _ 0 (by omega))) ?_
  refine AQ_q 10 _ rfl rfl rfl (QOp_move _ _ rfl rfl) ?_
  obtain ⟨hc2, h⟩ := guardO h
  refine AQ_q 11 _ rfl rfl rfl (QOp_indexAddr_sl _ _ _ _ _ _ _ _ rfl Try.underlying40 Try.sizeOf2 hc2.1 (by rw [intsD_length]; exact hc2.2) rfl rfl) ?_
  refine AQ_q 12 _ rfl rfl rfl (QOp_load_pv _ _ _ _ _ rfl Try.isAgg2 rfl (intsD_get _ _ 0 (by omega))) ?_
  refine AQ_q 13 _ rfl rfl rfl (QOp_sub _ _ _ _ _ _ _ rfl rfl rfl) ?_
  refine AQ_q 14 _ rfl rfl rfl (QOp_move _ _ rfl rfl) ?_
  obtain ⟨hc3, h⟩ := guardO h
  refine AQ_q 15 _ rfl rfl rfl (QOp_indexAddr_sl _ _ _ _ _ _ _ _ rfl Try.underlying40 Try.sizeOf2 hc3.1 (by rw [intsD_length]; exact hc3.2) rfl rfl) ?_
  refine AQ_q 16 _ rfl rfl rfl (QOp_load_pv _ _ _ _ _ rfl Try.isAgg2 rfl (intsD_get _ _ 0 (by omega))) ?_
  refine AQ_q 17 _ rfl rfl rfl (QOp_move _ _ rfl rfl) ?_
  obtain ⟨hc4, h⟩ := guardO h
  refine AQ_q 18 _ rfl rfl rfl (QOp_indexAddr_sl _ _ _ _ _ _ _ _ rfl Try.underlying40 Try.sizeOf2 hc4.1 (by rw [intsD_length]; exact hc4.2) rfl rfl) ?_
  refine AQ_q 19 _ rfl rfl rfl (QOp_load_pv _ _ _ _ _ rfl Try.isAgg2 rfl (intsD_get _ _ 0 (by omega))) ?_
  refine AQ_q 20 _ rfl rfl rfl (QOp_sub _ _ _ _ _ _ _ rfl rfl rfl) ?_
  refine AQ_q 21 _ rfl rfl rfl (QOp_mul _ _ _ _ _ _ _ rfl rfl rfl) ?_
  refine AQ_q 22 _ rfl rfl rfl (QOp_move _ _ rfl rfl) ?_
  obtain ⟨hc5, h⟩ := guardO h
  refine AQ_q 23 _ rfl rfl rfl (QOp_indexAddr_sl _ _ _ _ _ _ _ _ rfl Try.underlying40 Try.sizeOf2 hc5.1 (by rw [intsD_length]; exact hc5.2) rfl rfl) ?_
  refine AQ_q 24 _ rfl rfl rfl (QOp_load_pv _ _ _ _ _ rfl Try.isAgg2 rfl (intsD_get _ _ 0 (by omega))) ?_
  refine AQ_q 25 _ rfl rfl rfl (QOp_move _ _ rfl rfl) ?_
  obtain ⟨hc6, h⟩ := guardO h
  refine AQ_q 26 _ rfl rfl rfl (QOp_indexAddr_sl _ _ _ _ _ _ _ _ rfl Try.underlying40 Try.sizeOf2 hc6.1 (by rw [intsD_length]; exact hc6.2) rfl rfl) ?_
  refine AQ_q 27 _ rfl rfl rfl (QOp_load_pv _ _ _ _ _ rfl Try.isAgg2 rfl (intsD_get _ _ 0 (by omega))) ?_
  refine AQ_q 28 _ rfl rfl rfl (QOp_sub _ _ _ _ _ _ _ rfl rfl rfl) ?_
  refine AQ_q 29 _ rfl rfl rfl (QOp_move _ _ rfl rfl) ?_
  obtain ⟨hc7, h⟩ := guardO h
  refine AQ_q 30 _ rfl rfl rfl (QOp_indexAddr_sl _ _ _ _ _ _ _ _ rfl Try.underlying40 Try.sizeOf2 hc7.1 (by rw [intsD_length]; exact hc7.2) rfl rfl) ?_
  refine AQ_q 31 _ rfl rfl rfl (QOp_load_pv _ _ _ _ _ rfl Try.isAgg2 rfl (intsD_get _ _ 0 (by omega))) ?_
  refine AQ_q 32 _ rfl rfl rfl (QOp_move _ _ rfl rfl) ?_
  obtain ⟨hc8, h⟩ := guardO h
  refine AQ_q 33 _ rfl rfl rfl (QOp_indexAddr_sl _ _ _ _ _ _ _ _ rfl Try.underlying40 Try.sizeOf2 hc8.1 (by rw [intsD_length]; exact hc8.2) rfl rfl) ?_
  refine AQ_q 34 _ rfl rfl rfl (QOp_load_pv _ _ _ _ _ rfl Try.isAgg2 rfl (intsD_get _ _ 0 (by omega))) ?_
  refine AQ_q 35 _ rfl rfl rfl (QOp_sub _ _ _ _ _ _ _ rfl rfl rfl) ?_
  refine AQ_q 36 _ rfl rfl rfl (QOp_mul _ _ _ _ _ _ _ rfl rfl rfl) ?_
  refine AQ_q 37 _ rfl rfl rfl (QOp_sub _ _ _ _ _ _ _ rfl rfl rfl) ?_
  refine AQ_q 6 _ rfl rfl rfl (QOp_assign _ _ rfl rfl) ?_
  refine AQ_nil ?_
  refine ACode_ret ?_
  cases h
  exact ⟨_, _, fun r a w h => ⟨r, h⟩, _, _, [], _, (.cons (ResV_tmp _ _ rfl) .nil), rfl, rfl, rfl, rfl, rfl⟩

-- loop.example/g01362/impl.greatestBend
def impl_greatestBend_l2 (p0 : List (List Int)) (p1 : Int) (x3 : Int) (x7 : Int) : Nat → Int → M17 → Option (M17)
  | 0, _, _ => none
  | k2 + 1, x12, x13 => (if decide (x12 < x7) then ((if 0 ≤ x12 ∧ x12 < (p0.length : Int) then (if 0 ≤ x7 ∧ x7 < (p0.length : Int) then (if 0 ≤ x3 ∧ x3 < (p0.length : Int) then (impl_bends (p0.getD x12.toNat []) (p0.getD x7.toNat []) (p0.getD x3.toNat [])).bind fun r18 => (if decide (0 < w64 (p1 * r18)) then (if 0 ≤ x7 ∧ x7 < 17 then (if 0 ≤ x3 ∧ x3 < 17 then (if 0 ≤ x12 ∧ x12 < 17 then (if 0 ≤ x7 ∧ x7 < 17 then (if 0 ≤ x7 ∧ x7 < 17 then (if 0 ≤ x3 ∧ x3 < 17 then some (x13.set (x7.toNat * 17 + x3.toNat) (if (x13.get (x7.toNat * 17 + x3.toNat)) < w64 ((x13.get (x12.toNat * 17 + x7.toNat)) + 1) then w64 ((x13.get (x12.toNat * 17 + x7.toNat)) + 1) else (x13.get (x7.toNat * 17 + x3.toNat)))) else none) else none) else none) else none) else none) else none) else some x13) else none) else none) else none) : Option (M17)).bind fun s26 => impl_greatestBend_l2 p0 p1 x3 x7 k2 (w64 (x12 + 1)) s26 else some x13)
def impl_greatestBend_l1 (k : Nat) (p0 : List (List Int)) (p1 : Int) (x3 : Int) : Nat → Int → Int → M17 → Option (Int × M17)
  | 0, _, _, _ => none
  | k1 + 1, x6, x7, x8 => (if decide (x7 < x3) then ((if 0 ≤ x7 ∧ x7 < 17 then (if 0 ≤ x3 ∧ x3 < 17 then (impl_greatestBend_l2 p0 p1 x3 x7 k 0 (x8.set (x7.toNat * 17 + x3.toNat) 2) : Option (M17)).bind fun s27 => (if 0 ≤ x7 ∧ x7 < 17 then (if 0 ≤ x3 ∧ x3 < 17 then some ((if x6 < (s27.get (x7.toNat * 17 + x3.toNat)) then (s27.get (x7.toNat * 17 + x3.toNat)) else x6), s27) else none) else none) else none) else none) : Option (Int × M17)).bind fun s30 => impl_greatestBend_l1 k p0 p1 x3 k1 s30.1 (w64 (x7 + 1)) s30.2 else some (x6, x8))
def impl_greatestBend_l0 (k : Nat) (p0 : List (List Int)) (p1 : Int) : Nat → Int → Int → M17 → Option (Int)
  | 0, _, _, _ => none
  | k0 + 1, x2, x3, x4 => (if decide (x3 < (p0.length : Int)) then (impl_greatestBend_l1 k p0 p1 x3 k x2 0 x4 : Option (Int × M17)).bind fun s31 => impl_greatestBend_l0 k p0 p1 k0 s31.1 (w64 (x3 + 1)) s31.2 else some x2)
def impl_greatestBend (k : Nat) (p0 : List (List Int)) (p1 : Int) : Option (Int) :=
  (impl_greatestBend_l0 k p0 p1 k (if 2 < (impl_size_R p0) then 2 else (impl_size_R p0)) 0 M17.zero : Option (Int)).bind fun s32 => some s32
set_option maxRecDepth 100000 in
theorem impl_greatestBend_ac (k : Nat) (p0 : List (List Int)) (p1 : Int) (r : Int) (h : impl_greatestBend k p0 p1 = some r) : AC Try.prog 36 [.d (.sl none (rowsD p0)), iV p1] [] (fun res H' => res = [iV r] ∧ H' = []) := by
  refine AC_of_body true Try.func36 rfl Try.ntmps36 (rvs := [.tmp 4]) rfl rfl (fun G hG => ?_)
  have hm : G.H.length = 0 := by rw [hG]; rfl
  have hz : zeroG G.H = true := by rw [hG]; rfl
  unfold impl_greatestBend at h
  refine ACode_seq (ACode_region ?_)
  refine AOps_q 4 _ rfl rfl rfl (QOp_assign _ _ rfl rfl) ?_
  refine AOps_nil ?_
  refine ACode_seq (ACode_region ?_)
  refine AOps_q 10 _ rfl rfl rfl (QOp_move _ _ rfl rfl) ?_
  refine AOps_call [] 11 _ _ _ _ _ _ _ _ _ _ rfl rfl rfl rfl rfl rfl rfl Try.call49 rfl (nodupB_sound _ rfl) rfl rfl rfl (impl_size_R_ac p0) ?_
  rintro _ _ ⟨rfl, rfl⟩
  refine ⟨(fun _ h => nomatch h), (allc (trivial) (fun _ h => nomatch h)), AOps_as 11 (v' := iV (impl_size_R p0)) (H' := []) rfl rfl ?_⟩
  refine AOps_q 12 _ rfl rfl rfl (QOp_min _ _ _ _ _ _ rfl rfl rfl rfl rfl) ?_
  refine AOps_q 5 _ rfl rfl rfl (QOp_assign _ _ rfl rfl) ?_
  refine AOps_nil ?_
  refine ACode_seq (ACode_region ?_)
  refine AOps_alloc 6 _ _ (m17D M17.zero) (zero_of Try.typeInfo87 rfl) (by rfl) rfl rfl rfl rfl ?_
  refine AOps_nil ?_
  obtain ⟨s32, hss32, hks32⟩ := bindO h
  clear h
  refine ACode_seqJ (fun E' H' => Weak 73 G E' H' [(5, iV s32)] []) ?_ ?_
  · have h := hss32
    clear hss32
    refine ACode_seq (ACode_region ?_)
    refine AOps_q 13 _ rfl rfl rfl (QOp_move _ _ rfl rfl) ?_
    refine AOps_q 14 _ rfl rfl rfl (QOp_len_sl _ _ _ _ _ _ _ (rowsD_length _) rfl rfl rfl rfl Try.underlying25 rfl) ?_
    refine AOps_q 15 _ rfl rfl rfl (QOp_move _ _ rfl rfl) ?_
    refine AOps_nil ?_
    refine ACode_block ?_
    refine ACode_loopW (fun k0 E H => ∃ (x2 : Int) (x3 : Int) (x4 : M17), E = [(0, .d (.sl none (rowsD p0))), (1, iV p1), (5, iV x2), (6, .ptr 0 0), (14, iV (p0.length : Int)), (15, iV x3)] ∧ H = [.box (m17D x4)] ∧ impl_greatestBend_l0 k p0 p1 k0 x2 x3 x4 = some s32) k _ _ (Weak_keep 0 hm [0, 1, 5, 6, 14, 15] [0] _ _ rfl rfl rfl) ⟨_, _, _, rfl, rfl, h⟩ ?_
    clear h
    rintro k0 E H ⟨x2, x3, x4, rfl, rfl, h⟩
    cases k0 with
    | zero => cases (show (none : Option (Int)) = some _ from h)
    | succ k0 =>
      rw [impl_greatestBend_l0] at h
      refine ACode_seq (ACode_region ?_)
      refine AOps_q 16 _ rfl rfl rfl (QOp_lss _ _ _ _ _ _ _ rfl rfl rfl) ?_
      refine AOps_nil ?_
      refine ACode_seq ?_
      refine ACode_cond _ rfl (fun hb5 => ?_) (fun hb5 => ?_)
      · have h := iteT hb5 h
        refine ACode_skip ?_
        obtain ⟨s31, hss31, hks31⟩ := bindO h
        clear h
        refine ACode_seqJ (fun E' H' => Weak 73 G E' H' [(0, .d (.sl none (rowsD p0))), (1, iV p1), (5, iV s31.1), (6, .ptr 0 0), (14, iV (p0.length : Int)), (15, iV x3)] [.box (m17D s31.2)]) ?_ ?_
        · have h := hss31
          clear hss31
          refine ACode_block ?_
          refine ACode_seq (ACode_region ?_)
          refine AOps_q 17 _ rfl rfl rfl (QOp_move _ _ rfl rfl) ?_
          refine AOps_q 7 _ rfl rfl rfl (QOp_assign _ _ rfl rfl) ?_
          refine AOps_nil ?_
          refine ACode_seq (ACode_region ?_)
          refine AOps_q 18 _ rfl rfl rfl (QOp_move _ _ rfl rfl) ?_
          refine AOps_q 19 _ rfl rfl rfl (QOp_move _ _ rfl rfl) ?_
          refine AOps_nil ?_
          refine ACode_block ?_
          refine ACode_loopW (fun k1 E H => ∃ (x6 : Int) (x7 : Int) (x8 : M17), E = [(0, .d (.sl none (rowsD p0))), (1, iV p1), (5, iV x6), (6, .ptr 0 0), (7, iV x3), (14, iV (p0.length : Int)), (15, iV x3), (18, iV x3), (19, iV x7)] ∧ H = [.box (m17D x8)] ∧ impl_greatestBend_l1 k p0 p1 x3 k1 x6 x7 x8 = some s31) k _ _ (Weak_keep 0 hm [0, 1, 5, 6, 7, 14, 15, 18, 19] [0] _ _ rfl rfl rfl) ⟨_, _, _, rfl, rfl, h⟩ ?_
          clear h
          rintro k1 E H ⟨x6, x7, x8, rfl, rfl, h⟩
          cases k1 with
          | zero => cases (show (none : Option (Int × M17)) = some _ from h)
          | succ k1 =>
            rw [impl_greatestBend_l1] at h
            refine ACode_seq (ACode_region ?_)
            refine AOps_q 20 _ rfl rfl rfl (QOp_lss _ _ _ _ _ _ _ rfl rfl rfl) ?_
            refine AOps_nil ?_
            refine ACode_seq ?_
            refine ACode_cond _ rfl (fun hb9 => ?_) (fun hb9 => ?_)
            · have h := iteT hb9 h
              refine ACode_skip ?_
              obtain ⟨s30, hss30, hks30⟩ := bindO h
              clear h
              refine ACode_seqJ (fun E' H' => Weak 73 G E' H' [(0, .d (.sl none (rowsD p0))), (1, iV p1), (5, iV s30.1), (6, .ptr 0 0), (7, iV x3), (14, iV (p0.length : Int)), (15, iV x3), (18, iV x3), (19, iV x7)] [.box (m17D s30.2)]) ?_ ?_
              · have h := hss30
                clear hss30
                refine ACode_block ?_
                refine ACode_seq (ACode_region ?_)
                refine AOps_q 21 _ rfl rfl rfl (QOp_move _ _ rfl rfl) ?_
                refine AOps_q 8 _ rfl rfl rfl (QOp_assign _ _ rfl rfl) ?_
                refine AOps_nil ?_
                refine ACode_seq (ACode_region ?_)
                refine AOps_q 22 _ rfl rfl rfl (QOp_move _ _ rfl rfl) ?_
                refine AOps_q 23 _ rfl rfl rfl (QOp_move _ _ rfl rfl) ?_
                obtain ⟨hc10, h⟩ := guardO h
                refine AOps_q 24 _ rfl rfl rfl (QOp_indexAddrM_ptr _ _ _ _ _ _ _ _ _ _ _ rfl Try.underlying87 Try.sizeOf86 hc10.1 hc10.2 rfl rfl rfl rfl) ?_
                obtain ⟨hc11, h⟩ := guardO h
                refine AOps_q 25 _ rfl rfl rfl (QOp_indexAddrA_ptr _ _ _ _ _ _ _ _ _ _ rfl Try.underlying86 Try.sizeOf2 hc11.1 hc11.2 rfl rfl rfl rfl) ?_
                refine AOps_store1 _ _ _ _ _ _ (m17D (x8.set (x7.toNat * 17 + x3.toNat) 2)) _ rfl rfl rfl rfl rfl rfl rfl Try.sizeOf2 (by rw [m17D_length]; omega) (m17D_set0 x8 (x7.toNat * 17) x3.toNat 2) ?_
                refine AOps_nil ?_
                obtain ⟨s27, hss27, hks27⟩ := bindO h
                clear h
                refine ACode_seqJ (fun E' H' => Weak 73 G E' H' [(0, .d (.sl none (rowsD p0))), (1, iV p1), (5, iV x6), (6, .ptr 0 0), (7, iV x3), (8, iV x7), (14, iV (p0.length : Int)), (15, iV x3), (18, iV x3), (19, iV x7)] [.box (m17D s27)]) ?_ ?_
                · have h := hss27
                  clear hss27
                  refine ACode_seq (ACode_region ?_)
                  refine AOps_q 26 _ rfl rfl rfl (QOp_move _ _ rfl rfl) ?_
                  refine AOps_q 27 _ rfl rfl rfl (QOp_move _ _ rfl rfl) ?_
                  refine AOps_nil ?_
                  refine ACode_block ?_
                  refine ACode_loopW (fun k2 E H => ∃ (x12 : Int) (x13 : M17), E = [(0, .d (.sl none (rowsD p0))), (1, iV p1), (5, iV x6), (6, .ptr 0 0), (7, iV x3), (8, iV x7), (14, iV (p0.length : Int)), (15, iV x3), (18, iV x3), (19, iV x7), (26, iV x7), (27, iV x12)] ∧ H = [.box (m17D x13)] ∧ impl_greatestBend_l2 p0 p1 x3 x7 k2 x12 x13 = some s27) k _ _ (Weak_keep 0 hm [0, 1, 5, 6, 7, 8, 14, 15, 18, 19, 26, 27] [0] _ _ rfl rfl rfl) ⟨_, _, rfl, rfl, h⟩ ?_
                  clear h
                  rintro k2 E H ⟨x12, x13, rfl, rfl, h⟩
                  cases k2 with
                  | zero => cases (show (none : Option (M17)) = some _ from h)
                  | succ k2 =>
                    rw [impl_greatestBend_l2] at h
                    refine ACode_seq (ACode_region ?_)
                    refine AOps_q 28 _ rfl rfl rfl (QOp_lss _ _ _ _ _ _ _ rfl rfl rfl) ?_
                    refine AOps_nil ?_
                    refine ACode_seq ?_
                    refine ACode_cond _ rfl (fun hb14 => ?_) (fun hb14 => ?_)
                    · have h := iteT hb14 h
                      refine ACode_skip ?_
                      obtain ⟨s26, hss26, hks26⟩ := bindO h
                      clear h
                      refine ACode_seqJ (fun E' H' => Weak 73 G E' H' [(0, .d (.sl none (rowsD p0))), (1, iV p1), (5, iV x6), (6, .ptr 0 0), (7, iV x3), (8, iV x7), (14, iV (p0.length : Int)), (15, iV x3), (18, iV x3), (19, iV x7), (26, iV x7), (27, iV x12)] [.box (m17D s26)]) ?_ ?_
                      · have h := hss26
                        clear hss26
                        refine ACode_block ?_
                        refine ACode_seq (ACode_region ?_)
                        refine AOps_q 29 _ rfl rfl rfl (QOp_move _ _ rfl rfl) ?_
                        refine AOps_q 9 _ rfl rfl rfl (QOp_assign _ _ rfl rfl) ?_
                        refine AOps_nil ?_
                        refine ACode_seq (ACode_quiet mixed (by kernel_rfl) ?_)
                        refine AQ_q 30 _ rfl rfl rfl (QOp_move _ _ rfl rfl) ?_
                        refine AQ_q 31 _ rfl rfl rfl (QOp_move _ _ rfl rfl) ?_
                        refine AQ_q 32 _ rfl rfl rfl (QOp_move _ _ rfl rfl) ?_
                        obtain ⟨hc15, h⟩ := guardO h
                        refine AQ_q 33 _ rfl rfl rfl (QOp_indexAddr_sl _ _ _ _ _ _ _ _ rfl Try.underlying25 Try.sizeOf40 hc15.1 (by rw [rowsD_length]; exact hc15.2) rfl rfl) ?_
                        refine AQ_q 34 _ rfl rfl rfl (QOp_load_pv _ _ _ _ _ rfl Try.isAgg40 rfl (rowsD_get _ _ [] (by omega))) ?_
                        refine AQ_q 35 _ rfl rfl rfl (QOp_move _ _ rfl rfl) ?_
                        refine AQ_q 36 _ rfl rfl rfl (QOp_move _ _ rfl rfl) ?_
                        obtain ⟨hc16, h⟩ := guardO h
                        refine AQ_q 37 _ rfl rfl rfl (QOp_indexAddr_sl _ _ _ _ _ _ _ _ rfl Try.underlying25 Try.sizeOf40 hc16.1 (by rw [rowsD_length]; exact hc16.2) rfl rfl) ?_
                        refine AQ_q 38 _ rfl rfl rfl (QOp_load_pv _ _ _ _ _ rfl Try.isAgg40 rfl (rowsD_get _ _ [] (by omega))) ?_
                        refine AQ_q 39 _ rfl rfl rfl (QOp_move _ _ rfl rfl) ?_
                        refine AQ_q 40 _ rfl rfl rfl (QOp_move _ _ rfl rfl) ?_
                        obtain ⟨hc17, h⟩ := guardO h
                        refine AQ_q 41 _ rfl rfl rfl (QOp_indexAddr_sl _ _ _ _ _ _ _ _ rfl Try.underlying25 Try.sizeOf40 hc17.1 (by rw [rowsD_length]; exact hc17.2) rfl rfl) ?_
                        refine AQ_q 42 _ rfl rfl rfl (QOp_load_pv _ _ _ _ _ rfl Try.isAgg40 rfl (rowsD_get _ _ [] (by omega))) ?_
                        obtain ⟨r18, hr18, h⟩ := bindO h
                        refine AQ_call 43 _ _ _ _ _ _ _ _ _ rfl rfl rfl rfl rfl rfl rfl Try.call70 rfl rfl rfl (impl_bends_ac (p0.getD x12.toNat []) (p0.getD x7.toNat []) (p0.getD x3.toNat []) _ hr18) ?_
                        refine AQ_q 44 _ rfl rfl rfl (QOp_mul _ _ _ _ _ _ _ rfl rfl rfl) ?_
                        refine AQ_q 45 _ rfl rfl rfl (QOp_gtr _ _ _ _ _ _ _ rfl rfl rfl) ?_
                        refine AQ_nil ?_
                        refine ACode_cond _ rfl (fun hb19 => ?_) (fun hb19 => ?_)
                        · have h := iteT hb19 h
                          refine (ACode_last (l := [_, _, _, _, _, _, _, _, _, _, _, _, _, _, _, _]) mixed (by kernel_rfl) (by kernel_rfl) ?_)
                          refine AQ_q 46 _ rfl rfl rfl (QOp_move _ _ rfl rfl) ?_
                          refine AQ_q 47 _ rfl rfl rfl (QOp_move _ _ rfl rfl) ?_
                          refine AQ_q 48 _ rfl rfl rfl (QOp_move _ _ rfl rfl) ?_
                          refine AQ_q 49 _ rfl rfl rfl (QOp_move _ _ rfl rfl) ?_
                          obtain ⟨hc20, h⟩ := guardO h
                          refine AQ_q 50 _ rfl rfl rfl (QOp_indexAddrM_ptr _ _ _ _ _ _ _ _ _ _ _ rfl Try.underlying87 Try.sizeOf86 hc20.1 hc20.2 rfl rfl rfl rfl) ?_
                          obtain ⟨hc21, h⟩ := guardO h
                          refine AQ_q 51 _ rfl rfl rfl (QOp_indexAddrA_ptr _ _ _ _ _ _ _ _ _ _ rfl Try.underlying86 Try.sizeOf2 hc21.1 hc21.2 rfl rfl rfl rfl) ?_
                          refine AQ_q 52 _ rfl rfl rfl (QOp_load_ptr _ _ _ _ _ _ rfl Try.isAgg2 rfl rfl (by rw [Nat.zero_add]; exact m17D_get _ _ (by omega))) ?_
                          refine AQ_q 53 _ rfl rfl rfl (QOp_move _ _ rfl rfl) ?_
                          refine AQ_q 54 _ rfl rfl rfl (QOp_move _ _ rfl rfl) ?_
                          obtain ⟨hc22, h⟩ := guardO h
                          refine AQ_q 55 _ rfl rfl rfl (QOp_indexAddrM_ptr _ _ _ _ _ _ _ _ _ _ _ rfl Try.underlying87 Try.sizeOf86 hc22.1 hc22.2 rfl rfl rfl rfl) ?_
                          obtain ⟨hc23, h⟩ := guardO h
                          refine AQ_q 56 _ rfl rfl rfl (QOp_indexAddrA_ptr _ _ _ _ _ _ _ _ _ _ rfl Try.underlying86 Try.sizeOf2 hc23.1 hc23.2 rfl rfl rfl rfl) ?_
                          refine AQ_q 57 _ rfl rfl rfl (QOp_load_ptr _ _ _ _ _ _ rfl Try.isAgg2 rfl rfl (by rw [Nat.zero_add]; exact m17D_get _ _ (by omega))) ?_
                          refine AQ_q 58 _ rfl rfl rfl (QOp_add _ _ _ _ _ _ _ rfl rfl rfl) ?_
                          refine AQ_q 59 _ rfl rfl rfl (QOp_max _ _ _ _ _ _ rfl rfl rfl rfl rfl) ?_
                          obtain ⟨hc24, h⟩ := guardO h
                          refine AQ_q 60 _ rfl rfl rfl (QOp_indexAddrM_ptr _ _ _ _ _ _ _ _ _ _ _ rfl Try.underlying87 Try.sizeOf86 hc24.1 hc24.2 rfl rfl rfl rfl) ?_
                          obtain ⟨hc25, h⟩ := guardO h
                          refine AQ_q 61 _ rfl rfl rfl (QOp_indexAddrA_ptr _ _ _ _ _ _ _ _ _ _ rfl Try.underlying86 Try.sizeOf2 hc25.1 hc25.2 rfl rfl rfl rfl) ?_
                          refine AQ_nil ?_
                          refine AOps_store1 _ _ _ _ _ _ (m17D (x13.set (x7.toNat * 17 + x3.toNat) (if (x13.get (x7.toNat * 17 + x3.toNat)) < w64 ((x13.get (x12.toNat * 17 + x7.toNat)) + 1) then w64 ((x13.get (x12.toNat * 17 + x7.toNat)) + 1) else (x13.get (x7.toNat * 17 + x3.toNat))))) _ rfl rfl rfl rfl rfl rfl rfl Try.sizeOf2 (by rw [m17D_length]; omega) (m17D_set0 x13 (x7.toNat * 17) x3.toNat (if (x13.get (x7.toNat * 17 + x3.toNat)) < w64 ((x13.get (x12.toNat * 17 + x7.toNat)) + 1) then w64 ((x13.get (x12.toNat * 17 + x7.toNat)) + 1) else (x13.get (x7.toNat * 17 + x3.toNat)))) ?_
                          refine AOps_nil ?_
                          cases h
                          exact Weak_keep 0 hm [0, 1, 5, 6, 7, 8, 14, 15, 18, 19, 26, 27] [0] _ _ rfl rfl rfl
                        · have h := iteF hb19 h
                          refine ACode_skip ?_
                          cases h
                          exact Weak_keep 0 hm [0, 1, 5, 6, 7, 8, 14, 15, 18, 19, 26, 27] [0] _ _ rfl rfl rfl
                      intro E' H' hw
                      refine ACode_weak hw ?_
                      have h := hks26
                      refine (ACode_region ?_)
                      refine AOps_q 62 _ rfl rfl rfl (QOp_add _ _ _ _ _ _ _ rfl rfl rfl) ?_
                      refine AOps_q 27 _ rfl rfl rfl (QOp_move _ _ rfl rfl) ?_
                      refine AOps_nil ?_
                      exact ⟨k2, _, _, Nat.lt_succ_self _, Weak_keep 0 hm [0, 1, 5, 6, 7, 8, 14, 15, 18, 19, 26, 27] [0] _ _ rfl rfl rfl, _, _, rfl, rfl, h⟩
                    · have h := iteF hb14 h
                      refine ACode_exit ?_
                      cases h
                      exact Weak_keep 0 hm [0, 1, 5, 6, 7, 8, 14, 15, 18, 19] [0] _ _ rfl rfl rfl
                intro E' H' hw
                refine ACode_weak hw ?_
                have h := hks27
                refine (ACode_region ?_)
                refine AOps_q 63 _ rfl rfl rfl (QOp_move _ _ rfl rfl) ?_
                refine AOps_q 64 _ rfl rfl rfl (QOp_move _ _ rfl rfl) ?_
                refine AOps_q 65 _ rfl rfl rfl (QOp_move _ _ rfl rfl) ?_
                obtain ⟨hc28, h⟩ := guardO h
                refine AOps_q 66 _ rfl rfl rfl (QOp_indexAddrM_ptr _ _ _ _ _ _ _ _ _ _ _ rfl Try.underlying87 Try.sizeOf86 hc28.1 hc28.2 rfl rfl rfl rfl) ?_
                obtain ⟨hc29, h⟩ := guardO h
                refine AOps_q 67 _ rfl rfl rfl (QOp_indexAddrA_ptr _ _ _ _ _ _ _ _ _ _ rfl Try.underlying86 Try.sizeOf2 hc29.1 hc29.2 rfl rfl rfl rfl) ?_
                refine AOps_q 68 _ rfl rfl rfl (QOp_load_ptr _ _ _ _ _ _ rfl Try.isAgg2 rfl rfl (by rw [Nat.zero_add]; exact m17D_get _ _ (by omega))) ?_
                refine AOps_q 69 _ rfl rfl rfl (QOp_max _ _ _ _ _ _ rfl rfl rfl rfl rfl) ?_
                refine AOps_q 5 _ rfl rfl rfl (QOp_assign _ _ rfl rfl) ?_
                refine AOps_nil ?_
                cases h
                exact Weak_keep 0 hm [0, 1, 5, 6, 7, 14, 15, 18, 19] [0] _ _ rfl rfl rfl
              intro E' H' hw
              refine ACode_weak hw ?_
              have h := hks30
              refine (ACode_region ?_)
              refine AOps_q 70 _ rfl rfl rfl (QOp_add _ _ _ _ _ _ _ rfl rfl rfl) ?_
              refine AOps_q 19 _ rfl rfl rfl (QOp_move _ _ rfl rfl) ?_
              refine AOps_nil ?_
              exact ⟨k1, _, _, Nat.lt_succ_self _, Weak_keep 0 hm [0, 1, 5, 6, 7, 14, 15, 18, 19] [0] _ _ rfl rfl rfl, _, _, _, rfl, rfl, h⟩
            · have h := iteF hb9 h
              refine ACode_exit ?_
              cases h
              exact Weak_keep 0 hm [0, 1, 5, 6, 14, 15] [0] _ _ rfl rfl rfl
        intro E' H' hw
        refine ACode_weak hw ?_
        have h := hks31
        refine (ACode_region ?_)
        refine AOps_q 71 _ rfl rfl rfl (QOp_add _ _ _ _ _ _ _ rfl rfl rfl) ?_
        refine AOps_q 15 _ rfl rfl rfl (QOp_move _ _ rfl rfl) ?_
        refine AOps_nil ?_
        exact ⟨k0, _, _, Nat.lt_succ_self _, Weak_keep 0 hm [0, 1, 5, 6, 14, 15] [0] _ _ rfl rfl rfl, _, _, _, rfl, rfl, h⟩
      · have h := iteF hb5 h
        refine ACode_exit ?_
        cases h
        exact Weak_keep 0 hm [5] [] _ _ rfl rfl rfl
  intro E' H' hw
  refine ACode_weak hw ?_
  have h := hks32
  refine ACode_seq (ACode_region ?_)
  refine AOps_q 72 _ rfl rfl rfl (QOp_move _ _ rfl rfl) ?_
  refine AOps_q 4 _ rfl rfl rfl (QOp_assign _ _ rfl rfl) ?_
  refine AOps_nil ?_
  refine ACode_ret ?_
  cases h
  exact ⟨_, _, fun r a w h => ⟨r, h⟩, _, _, [], _, (.cons (ResV_tmp _ _ rfl) .nil), rfl, rfl, rfl, rfl, rfl⟩

-- loop.example/g01362/impl.CupsAndCaps
def impl_CupsAndCaps (k : Nat) (p0 : List (List Int)) : Option (Int × Int × Int) :=
  (impl_isRow k p0).bind fun r1 => (if !r1 then some (0, 0, 2) else (impl_greatestBend k p0 1).bind fun r3 => (impl_greatestBend k p0 (-1)).bind fun r4 => some (r3, r4, 0))
set_option maxRecDepth 100000 in
theorem impl_CupsAndCaps_ac (k : Nat) (p0 : List (List Int)) (r : Int × Int × Int) (h : impl_CupsAndCaps k p0 = some r) : AC Try.prog 16 [.d (.sl none (rowsD p0))] [] (fun res H' => res = [iV r.1, iV r.2.1, iV r.2.2] ∧ H' = []) := by
  refine AC_of_body true Try.func16 rfl Try.ntmps16 (rvs := [.tmp 2, .tmp 3, .tmp 4]) rfl rfl (fun G hG => ?_)
  have hm : G.H.length = 0 := by rw [hG]; rfl
  have hz : zeroG G.H = true := by rw [hG]; rfl
  unfold impl_CupsAndCaps at h
  refine ACode_seq (ACode_region ?_)
  refine AOps_q 2 _ rfl rfl rfl (QOp_assign _ _ rfl rfl) ?_
  refine AOps_q 3 _ rfl rfl rfl (QOp_assign _ _ rfl rfl) ?_
  refine AOps_q 4 _ rfl rfl rfl (QOp_assign _ _ rfl rfl) ?_
  refine AOps_nil ?_
  refine ACode_seq ?_
  refine ACode_seq (ACode_region ?_)
  refine AOps_q 5 _ rfl rfl rfl (QOp_move _ _ rfl rfl) ?_
  obtain ⟨r1, hr1, h⟩ := bindO h
  refine AOps_call [] 6 _ _ _ _ _ _ _ _ _ _ rfl rfl rfl rfl rfl rfl rfl Try.call35 rfl (nodupB_sound _ rfl) rfl rfl rfl (impl_isRow_ac k p0 _ hr1) ?_
  rintro _ _ ⟨rfl, rfl⟩
  refine ⟨(fun _ h => nomatch h), (allc (trivial) (fun _ h => nomatch h)), AOps_as 6 (v' := bV r1) (H' := []) rfl rfl ?_⟩
  refine AOps_q 7 _ rfl rfl rfl (QOp_not _ _ _ rfl rfl) ?_
  refine AOps_nil ?_
  refine ACode_cond _ rfl (fun hb2 => ?_) (fun hb2 => ?_)
  · have h := iteT hb2 h
    refine ACode_seq (ACode_region ?_)
    refine AOps_q 2 _ rfl rfl rfl (QOp_assign _ _ rfl rfl) ?_
    refine AOps_q 3 _ rfl rfl rfl (QOp_assign _ _ rfl rfl) ?_
    refine AOps_q 4 _ rfl rfl rfl (QOp_assign _ _ rfl rfl) ?_
    refine AOps_nil ?_
    refine ACode_ret ?_
    cases h
    exact ⟨_, _, fun r a w h => ⟨r, h⟩, _, _, [], _, (.cons (ResV_tmp _ _ rfl) (.cons (ResV_tmp _ _ rfl) (.cons (ResV_tmp _ _ rfl) .nil))), rfl, rfl, rfl, rfl, rfl⟩
  · have h := iteF hb2 h
    refine ACode_skip ?_
    refine ACode_seq (ACode_region ?_)
    refine AOps_q 8 _ rfl rfl rfl (QOp_move _ _ rfl rfl) ?_
    obtain ⟨r3, hr3, h⟩ := bindO h
    refine AOps_call [] 9 _ _ _ _ _ _ _ _ _ _ rfl rfl rfl rfl rfl rfl rfl Try.call36 rfl (nodupB_sound _ rfl) rfl rfl rfl (impl_greatestBend_ac k p0 1 _ hr3) ?_
    rintro _ _ ⟨rfl, rfl⟩
    refine ⟨(fun _ h => nomatch h), (allc (trivial) (fun _ h => nomatch h)), AOps_as 9 (v' := iV r3) (H' := []) rfl rfl ?_⟩
    refine AOps_q 10 _ rfl rfl rfl (QOp_move _ _ rfl rfl) ?_
    obtain ⟨r4, hr4, h⟩ := bindO h
    refine AOps_call [] 11 _ _ _ _ _ _ _ _ _ _ rfl rfl rfl rfl rfl rfl rfl Try.call36 rfl (nodupB_sound _ rfl) rfl rfl rfl (impl_greatestBend_ac k p0 (-1) _ hr4) ?_
    rintro _ _ ⟨rfl, rfl⟩
    refine ⟨(fun _ h => nomatch h), (allc (trivial) (fun _ h => nomatch h)), AOps_as 11 (v' := iV r4) (H' := []) rfl rfl ?_⟩
    refine AOps_q 2 _ rfl rfl rfl (QOp_assign _ _ rfl rfl) ?_
    refine AOps_q 3 _ rfl rfl rfl (QOp_assign _ _ rfl rfl) ?_
    refine AOps_q 4 _ rfl rfl rfl (QOp_assign _ _ rfl rfl) ?_
    refine AOps_nil ?_
    refine ACode_ret ?_
    cases h
    exact ⟨_, _, fun r a w h => ⟨r, h⟩, _, _, [], _, (.cons (ResV_tmp _ _ rfl) (.cons (ResV_tmp _ _ rfl) (.cons (ResV_tmp _ _ rfl) .nil))), rfl, rfl, rfl, rfl, rfl⟩

-- loop.example/g01362/laws.eqInt64S
def laws_eqInt64S_l0 (p0 : List Int) (p1 : List Int) : Nat → Int → Option (Sum (Unit) (Bool))
  | 0, _ => none
  | k0 + 1, x2 => (if decide (x2 < (p0.length : Int)) then (if 0 ≤ x2 ∧ x2 < (p0.length : Int) then (if 0 ≤ x2 ∧ x2 < (p1.length : Int) then (if !decide ((p0.getD x2.toNat 0) = (p1.getD x2.toNat 0)) then some (.inr false) else laws_eqInt64S_l0 p0 p1 k0 (w64 (x2 + 1))) else none) else none) else some (.inl ()))
def laws_eqInt64S (k : Nat) (p0 : List Int) (p1 : List Int) : Option (Bool) :=
  (if !decide ((p0.length : Int) = (p1.length : Int)) then some false else (laws_eqInt64S_l0 p0 p1 k 0 : Option (Sum (Unit) (Bool))).bind fun os7 => (match os7 with | .inl s7 => some true | .inr rr => some rr))
set_option maxRecDepth 100000 in
theorem laws_eqInt64S_ac (k : Nat) (p0 : List Int) (p1 : List Int) (r : Bool) (h : laws_eqInt64S k p0 p1 = some r) : AC Try.prog 22 [.d (.sl none (intsD p0)), .d (.sl none (intsD p1))] [] (fun res H' => res = [bV r] ∧ H' = []) := by
  refine AC_of_body true Try.func22 rfl Try.ntmps22 (rvs := [.tmp 4]) rfl rfl (fun G hG => ?_)
  have hm : G.H.length = 0 := by rw [hG]; rfl
  have hz : zeroG G.H = true := by rw [hG]; rfl
  unfold laws_eqInt64S at h
  refine ACode_seq (ACode_region ?_)
  refine AOps_q 4 _ rfl rfl rfl (QOp_assign _ _ rfl rfl) ?_
  refine AOps_nil ?_
  refine ACode_seq ?_
  refine ACode_seq (ACode_region ?_)
  refine AOps_q 6 _ rfl rfl rfl (QOp_move _ _ rfl rfl) ?_
  refine AOps_q 7 _ rfl rfl rfl (QOp_len_sl _ _ _ _ _ _ _ (intsD_length _) rfl rfl rfl rfl Try.underlying40 rfl) ?_
  refine AOps_q 8 _ rfl rfl rfl (QOp_move _ _ rfl rfl) ?_
  refine AOps_q 9 _ rfl rfl rfl (QOp_len_sl _ _ _ _ _ _ _ (intsD_length _) rfl rfl rfl rfl Try.underlying40 rfl) ?_
  refine AOps_q 10 _ rfl rfl rfl (QOp_neq _ _ _ _ _ _ _ rfl rfl rfl) ?_
  refine AOps_nil ?_
  refine ACode_cond _ rfl (fun hb1 => ?_) (fun hb1 => ?_)
  · have h := iteT hb1 h
    refine ACode_seq (ACode_region ?_)
    refine AOps_q 4 _ rfl rfl rfl (QOp_assign _ _ rfl rfl) ?_
    refine AOps_nil ?_
    refine ACode_ret ?_
    cases h
    exact ⟨_, _, fun r a w h => ⟨r, h⟩, _, _, [], _, (.cons (ResV_tmp _ _ rfl) .nil), rfl, rfl, rfl, rfl, rfl⟩
  · have h := iteF hb1 h
    refine ACode_skip ?_
    obtain ⟨os7, hss7, hks7⟩ := bindO h
    clear h
    refine ACode_seqJ (fun E' H' => ∃ s7 : Unit, os7 = .inl s7 ∧ Weak 26 G E' H' [] []) ?_ ?_
    · have h := hss7
      clear hss7
      refine ACode_seq (ACode_region ?_)
      refine AOps_q 5 _ rfl rfl rfl (QOp_assign _ _ rfl rfl) ?_
      refine AOps_nil ?_
      refine ACode_block ?_
      refine ACode_loopW (fun k0 E H => ∃ (x2 : Int), E = [(0, .d (.sl none (intsD p0))), (1, .d (.sl none (intsD p1))), (5, iV x2)] ∧ H = [] ∧ laws_eqInt64S_l0 p0 p1 k0 x2 = some os7) k _ _ (Weak_keep 0 hm [0, 1, 5] [] _ _ rfl rfl rfl) ⟨_, rfl, rfl, h⟩ ?_
      clear h
      rintro k0 E H ⟨x2, rfl, rfl, h⟩
      cases k0 with
      | zero => cases (show (none : Option (Sum (Unit) (Bool))) = some _ from h)
      | succ k0 =>
        rw [laws_eqInt64S_l0] at h
        refine ACode_seq ?_
        refine ACode_seq (ACode_region ?_)
        refine AOps_q 11 _ rfl rfl rfl (QOp_move _ _ rfl rfl) ?_
        refine AOps_q 12 _ rfl rfl rfl (QOp_move _ _ rfl rfl) ?_
        refine AOps_q 13 _ rfl rfl rfl (QOp_len_sl _ _ _ _ _ _ _ (intsD_length _) rfl rfl rfl rfl Try.underlying40 rfl) ?_
        refine AOps_q 14 _ rfl rfl rfl (QOp_lss _ _ _ _ _ _ _ rfl rfl rfl) ?_
        refine AOps_nil ?_
        refine ACode_cond _ rfl (fun hb3 => ?_) (fun hb3 => ?_)
        · have h := iteT hb3 h
          refine ACode_skip ?_
          refine ACode_seq ?_
          refine ACode_block ?_
          refine ACode_seq (ACode_quiet mixed (by kernel_rfl) ?_)
          refine AQ_q 17 _ rfl rfl rfl (QOp_move _ _ rfl rfl) ?_
          refine AQ_q 18 _ rfl rfl rfl (QOp_move _ _ rfl rfl) ?_
          obtain ⟨hc4, h⟩ := guardO h
          refine AQ_q 19 _ rfl rfl rfl (QOp_indexAddr_sl _ _ _ _ _ _ _ _ rfl Try.underlying40 Try.sizeOf2 hc4.1 (by rw [intsD_length]; exact hc4.2) rfl rfl) ?_
          refine AQ_q 20 _ rfl rfl rfl (QOp_load_pv _ _ _ _ _ rfl Try.isAgg2 rfl (intsD_get _ _ 0 (by omega))) ?_
          refine AQ_q 21 _ rfl rfl rfl (QOp_move _ _ rfl rfl) ?_
          refine AQ_q 22 _ rfl rfl rfl (QOp_move _ _ rfl rfl) ?_
          obtain ⟨hc5, h⟩ := guardO h
          refine AQ_q 23 _ rfl rfl rfl (QOp_indexAddr_sl _ _ _ _ _ _ _ _ rfl Try.underlying40 Try.sizeOf2 hc5.1 (by rw [intsD_length]; exact hc5.2) rfl rfl) ?_
          refine AQ_q 24 _ rfl rfl rfl (QOp_load_pv _ _ _ _ _ rfl Try.isAgg2 rfl (intsD_get _ _ 0 (by omega))) ?_
          refine AQ_q 25 _ rfl rfl rfl (QOp_neq _ _ _ _ _ _ _ rfl rfl rfl) ?_
          refine AQ_nil ?_
          refine ACode_cond _ rfl (fun hb6 => ?_) (fun hb6 => ?_)
          · have h := iteT hb6 h
            refine ACode_seq (ACode_region ?_)
            refine AOps_q 4 _ rfl rfl rfl (QOp_assign _ _ rfl rfl) ?_
            refine AOps_nil ?_
            refine ACode_ret ?_
            cases h
            have h := hks7
            cases h
            exact ⟨_, _, fun r a w h => ⟨r, h⟩, _, _, [], _, (.cons (ResV_tmp _ _ rfl) .nil), rfl, rfl, rfl, rfl, rfl⟩
          · have h := iteF hb6 h
            refine ACode_skip ?_
            refine (ACode_region ?_)
            refine AOps_q 15 _ rfl rfl rfl (QOp_move _ _ rfl rfl) ?_
            refine AOps_q 16 _ rfl rfl rfl (QOp_add _ _ _ _ _ _ _ rfl rfl rfl) ?_
            refine AOps_q 5 _ rfl rfl rfl (QOp_assign _ _ rfl rfl) ?_
            refine AOps_nil ?_
            exact ⟨k0, _, _, Nat.lt_succ_self _, Weak_keep 0 hm [0, 1, 5] [] _ _ rfl rfl rfl, _, rfl, rfl, h⟩
        · have h := iteF hb3 h
          refine ACode_exit ?_
          cases h
          exact ⟨_, rfl, Weak_keep 0 hm [] [] _ _ rfl rfl rfl⟩
    rintro E' H' ⟨s7, rfl, hw⟩
    refine ACode_weak hw ?_
    have h := hks7
    refine ACode_seq (ACode_region ?_)
    refine AOps_q 4 _ rfl rfl rfl (QOp_assign _ _ rfl rfl) ?_
    refine AOps_nil ?_
    refine ACode_ret ?_
    cases h
    exact ⟨_, _, fun r a w h => ⟨r, h⟩, _, _, [], _, (.cons (ResV_tmp _ _ rfl) .nil), rfl, rfl, rfl, rfl, rfl⟩

-- loop.example/g01362/laws.eqInt64SS
def laws_eqInt64SS_l0 (k : Nat) (p0 : List (List Int)) (p1 : List (List Int)) : Nat → Int → Option (Sum (Unit) (Bool))
  | 0, _ => none
  | k0 + 1, x2 => (if decide (x2 < (p0.length : Int)) then (if 0 ≤ x2 ∧ x2 < (p0.length : Int) then (if 0 ≤ x2 ∧ x2 < (p1.length : Int) then (laws_eqInt64S k (p0.getD x2.toNat []) (p1.getD x2.toNat [])).bind fun r6 => (if !r6 then some (.inr false) else laws_eqInt64SS_l0 k p0 p1 k0 (w64 (x2 + 1))) else none) else none) else some (.inl ()))
def laws_eqInt64SS (k : Nat) (p0 : List (List Int)) (p1 : List (List Int)) : Option (Bool) :=
  (if !decide ((p0.length : Int) = (p1.length : Int)) then some false else (laws_eqInt64SS_l0 k p0 p1 k 0 : Option (Sum (Unit) (Bool))).bind fun os8 => (match os8 with | .inl s8 => some true | .inr rr => some rr))
set_option maxRecDepth 100000 in
theorem laws_eqInt64SS_ac (k : Nat) (p0 : List (List Int)) (p1 : List (List Int)) (r : Bool) (h : laws_eqInt64SS k p0 p1 = some r) : AC Try.prog 10 [.d (.sl none (rowsD p0)), .d (.sl none (rowsD p1))] [] (fun res H' => res = [bV r] ∧ H' = []) := by
  refine AC_of_body true Try.func10 rfl Try.ntmps10 (rvs := [.tmp 4]) rfl rfl (fun G hG => ?_)
  have hm : G.H.length = 0 := by rw [hG]; rfl
  have hz : zeroG G.H = true := by rw [hG]; rfl
  unfold laws_eqInt64SS at h
  refine ACode_seq (ACode_region ?_)
  refine AOps_q 4 _ rfl rfl rfl (QOp_assign _ _ rfl rfl) ?_
  refine AOps_nil ?_
  refine ACode_seq ?_
  refine ACode_seq (ACode_region ?_)
  refine AOps_q 6 _ rfl rfl rfl (QOp_move _ _ rfl rfl) ?_
  refine AOps_q 7 _ rfl rfl rfl (QOp_len_sl _ _ _ _ _ _ _ (rowsD_length _) rfl rfl rfl rfl Try.underlying25 rfl) ?_
  refine AOps_q 8 _ rfl rfl rfl (QOp_move _ _ rfl rfl) ?_
  refine AOps_q 9 _ rfl rfl rfl (QOp_len_sl _ _ _ _ _ _ _ (rowsD_length _) rfl rfl rfl rfl Try.underlying25 rfl) ?_
  refine AOps_q 10 _ rfl rfl rfl (QOp_neq _ _ _ _ _ _ _ rfl rfl rfl) ?_
  refine AOps_nil ?_
  refine ACode_cond _ rfl (fun hb1 => ?_) (fun hb1 => ?_)
  · have h := iteT hb1 h
    refine ACode_seq (ACode_region ?_)
    refine AOps_q 4 _ rfl rfl rfl (QOp_assign _ _ rfl rfl) ?_
    refine AOps_nil ?_
    refine ACode_ret ?_
    cases h
    exact ⟨_, _, fun r a w h => ⟨r, h⟩, _, _, [], _, (.cons (ResV_tmp _ _ rfl) .nil), rfl, rfl, rfl, rfl, rfl⟩
  · have h := iteF hb1 h
    refine ACode_skip ?_
    obtain ⟨os8, hss8, hks8⟩ := bindO h
    clear h
    refine ACode_seqJ (fun E' H' => ∃ s8 : Unit, os8 = .inl s8 ∧ Weak 27 G E' H' [] []) ?_ ?_
    · have h := hss8
      clear hss8
      refine ACode_seq (ACode_region ?_)
      refine AOps_q 5 _ rfl rfl rfl (QOp_assign _ _ rfl rfl) ?_
      refine AOps_nil ?_
      refine ACode_block ?_
      refine ACode_loopW (fun k0 E H => ∃ (x2 : Int), E = [(0, .d (.sl none (rowsD p0))), (1, .d (.sl none (rowsD p1))), (5, iV x2)] ∧ H = [] ∧ laws_eqInt64SS_l0 k p0 p1 k0 x2 = some os8) k _ _ (Weak_keep 0 hm [0, 1, 5] [] _ _ rfl rfl rfl) ⟨_, rfl, rfl, h⟩ ?_
      clear h
      rintro k0 E H ⟨x2, rfl, rfl, h⟩
      cases k0 with
      | zero => cases (show (none : Option (Sum (Unit) (Bool))) = some _ from h)
      | succ k0 =>
        rw [laws_eqInt64SS_l0] at h
        refine ACode_seq ?_
        refine ACode_seq (ACode_region ?_)
        refine AOps_q 11 _ rfl rfl rfl (QOp_move _ _ rfl rfl) ?_
        refine AOps_q 12 _ rfl rfl rfl (QOp_move _ _ rfl rfl) ?_
        refine AOps_q 13 _ rfl rfl rfl (QOp_len_sl _ _ _ _ _ _ _ (rowsD_length _) rfl rfl rfl rfl Try.underlying25 rfl) ?_
        refine AOps_q 14 _ rfl rfl rfl (QOp_lss _ _ _ _ _ _ _ rfl rfl rfl) ?_
        refine AOps_nil ?_
        refine ACode_cond _ rfl (fun hb3 => ?_) (fun hb3 => ?_)
        · have h := iteT hb3 h
          refine ACode_skip ?_
          refine ACode_seq ?_
          refine ACode_block ?_
          refine ACode_seq (ACode_quiet mixed (by kernel_rfl) ?_)
          refine AQ_q 17 _ rfl rfl rfl (QOp_move _ _ rfl rfl) ?_
          refine AQ_q 18 _ rfl rfl rfl (QOp_move _ _ rfl rfl) ?_
          obtain ⟨hc4, h⟩ := guardO h
          refine AQ_q 19 _ rfl rfl rfl (QOp_indexAddr_sl _ _ _ _ _ _ _ _ rfl Try.underlying25 Try.sizeOf40 hc4.1 (by rw [rowsD_length]; exact hc4.2) rfl rfl) ?_
          refine AQ_q 20 _ rfl rfl rfl (QOp_load_pv _ _ _ _ _ rfl Try.isAgg40 rfl (rowsD_get _ _ [] (by omega))) ?_
          refine AQ_q 21 _ rfl rfl rfl (QOp_move _ _ rfl rfl) ?_
          refine AQ_q 22 _ rfl rfl rfl (QOp_move _ _ rfl rfl) ?_
          obtain ⟨hc5, h⟩ := guardO h
          refine AQ_q 23 _ rfl rfl rfl (QOp_indexAddr_sl _ _ _ _ _ _ _ _ rfl Try.underlying25 Try.sizeOf40 hc5.1 (by rw [rowsD_length]; exact hc5.2) rfl rfl) ?_
          refine AQ_q 24 _ rfl rfl rfl (QOp_load_pv _ _ _ _ _ rfl Try.isAgg40 rfl (rowsD_get _ _ [] (by omega))) ?_
          obtain ⟨r6, hr6, h⟩ := bindO h
          refine AQ_call 25 _ _ _ _ _ _ _ _ _ rfl rfl rfl rfl rfl rfl rfl Try.call22 rfl rfl rfl (laws_eqInt64S_ac k (p0.getD x2.toNat []) (p1.getD x2.toNat []) _ hr6) ?_
          refine AQ_q 26 _ rfl rfl rfl (QOp_not _ _ _ rfl rfl) ?_
          refine AQ_nil ?_
          refine ACode_cond _ rfl (fun hb7 => ?_) (fun hb7 => ?_)
          · have h := iteT hb7 h
            refine ACode_seq (ACode_region ?_)
            refine AOps_q 4 _ rfl rfl rfl (QOp_assign _ _ rfl rfl) ?_
            refine AOps_nil ?_
            refine ACode_ret ?_
            cases h
            have h := hks8
            cases h
            exact ⟨_, _, fun r a w h => ⟨r, h⟩, _, _, [], _, (.cons (ResV_tmp _ _ rfl) .nil), rfl, rfl, rfl, rfl, rfl⟩
          · have h := iteF hb7 h
            refine ACode_skip ?_
            refine (ACode_region ?_)
            refine AOps_q 15 _ rfl rfl rfl (QOp_move _ _ rfl rfl) ?_
            refine AOps_q 16 _ rfl rfl rfl (QOp_add _ _ _ _ _ _ _ rfl rfl rfl) ?_
            refine AOps_q 5 _ rfl rfl rfl (QOp_assign _ _ rfl rfl) ?_
            refine AOps_nil ?_
            exact ⟨k0, _, _, Nat.lt_succ_self _, Weak_keep 0 hm [0, 1, 5] [] _ _ rfl rfl rfl, _, rfl, rfl, h⟩
        · have h := iteF hb3 h
          refine ACode_exit ?_
          cases h
          exact ⟨_, rfl, Weak_keep 0 hm [] [] _ _ rfl rfl rfl⟩
    rintro E' H' ⟨s8, rfl, hw⟩
    refine ACode_weak hw ?_
    have h := hks8
    refine ACode_seq (ACode_region ?_)
    refine AOps_q 4 _ rfl rfl rfl (QOp_assign _ _ rfl rfl) ?_
    refine AOps_nil ?_
    refine ACode_ret ?_
    cases h
    exact ⟨_, _, fun r a w h => ⟨r, h⟩, _, _, [], _, (.cons (ResV_tmp _ _ rfl) .nil), rfl, rfl, rfl, rfl, rfl⟩

-- loop.example/g01362/laws.FnExactCupsAndCaps
def laws_FnExactCupsAndCaps (k : Nat) (p0 : List (List Int)) : Option (Bool) :=
  (laws_szInt64SS k p0 1048576).bind fun r1 => (if decide (r1 < 0) then some true else (laws_toInt64SS k p0).bind fun r3 => (spec_CupsAndCaps k r3).bind fun r4 => (laws_toInt64SS k p0).bind fun r5 => (impl_CupsAndCaps k r5).bind fun r6 => (letO (if !decide (r6.1 = r4.1) then true else (if !decide (r6.2.1 = r4.2.1) then true else !decide (r6.2.2 = r4.2.2))) fun (s9 : Bool) => (if s9 then some (.inr false) else some (.inl ())) : Option (Sum (Unit) (Bool))).bind fun os11 => (match os11 with | .inl s11 => (laws_toInt64SS k p0).bind fun r12 => (laws_eqInt64SS k r5 r12).bind fun r13 => (if !r13 then some false else some true) | .inr rr => some rr))
set_option maxRecDepth 100000 in
theorem laws_FnExactCupsAndCaps_ac (k : Nat) (p0 : List (List Int)) (r : Bool) (h : laws_FnExactCupsAndCaps k p0 = some r) : AC Try.prog 4 [.d (.sl none (rowsD p0))] [] (fun res H' => res = [bV r] ∧ H' = []) := by
  refine AC_of_body true Try.func4 rfl Try.ntmps4 (rvs := [.tmp 2]) rfl rfl (fun G hG => ?_)
  have hm : G.H.length = 0 := by rw [hG]; rfl
  have hz : zeroG G.H = true := by rw [hG]; rfl
  unfold laws_FnExactCupsAndCaps at h
  refine ACode_seq (ACode_region ?_)
  refine AOps_q 2 _ rfl rfl rfl (QOp_assign _ _ rfl rfl) ?_
  refine AOps_nil ?_
  refine ACode_seq (ACode_region ?_)
  refine AOps_q 3 _ rfl rfl rfl (QOp_assign _ _ rfl rfl) ?_
  refine AOps_nil ?_
  refine ACode_seq (ACode_region ?_)
  refine AOps_q 11 _ rfl rfl rfl (QOp_move _ _ rfl rfl) ?_
  refine AOps_q 12 _ rfl rfl rfl (QOp_move _ _ rfl rfl) ?_
  obtain ⟨r1, hr1, h⟩ := bindO h
  refine AOps_call [] 13 _ _ _ _ _ _ _ _ _ _ rfl rfl rfl rfl rfl rfl rfl Try.call13 rfl (nodupB_sound _ rfl) rfl rfl rfl (laws_szInt64SS_ac k p0 1048576 _ hr1) ?_
  rintro _ _ ⟨rfl, rfl⟩
  refine ⟨(fun _ h => nomatch h), (allc (trivial) (fun _ h => nomatch h)), AOps_as 13 (v' := iV r1) (H' := []) rfl rfl ?_⟩
  refine AOps_q 3 _ rfl rfl rfl (QOp_assign _ _ rfl rfl) ?_
  refine AOps_nil ?_
  refine ACode_seq ?_
  refine ACode_seq (ACode_region ?_)
  refine AOps_q 14 _ rfl rfl rfl (QOp_move _ _ rfl rfl) ?_
  refine AOps_q 15 _ rfl rfl rfl (QOp_lss _ _ _ _ _ _ _ rfl rfl rfl) ?_
  refine AOps_nil ?_
  refine ACode_cond _ rfl (fun hb2 => ?_) (fun hb2 => ?_)
  · have h := iteT hb2 h
    refine ACode_seq (ACode_region ?_)
    refine AOps_q 2 _ rfl rfl rfl (QOp_assign _ _ rfl rfl) ?_
    refine AOps_nil ?_
    refine ACode_ret ?_
    cases h
    exact ⟨_, _, fun r a w h => ⟨r, h⟩, _, _, [], _, (.cons (ResV_tmp _ _ rfl) .nil), rfl, rfl, rfl, rfl, rfl⟩
  · have h := iteF hb2 h
    refine ACode_skip ?_
    refine ACode_seq (ACode_region ?_)
    refine AOps_q 17 _ rfl rfl rfl (QOp_move _ _ rfl rfl) ?_
    obtain ⟨r3, hr3, h⟩ := bindO h
    refine AOps_call [] 18 _ _ _ _ _ _ _ _ _ _ rfl rfl rfl rfl rfl rfl rfl Try.call15 rfl (nodupB_sound _ rfl) rfl rfl rfl (laws_toInt64SS_ac k p0 _ hr3) ?_
    rintro _ _ ⟨rfl, rfl⟩
    refine ⟨(allc (fun _ _ => trivial) (fun _ h => nomatch h)), (allc (trivial) (fun _ h => nomatch h)), AOps_as 18 (v' := .vec 0 0) (H' := [.vec 0 (rowsD r3)]) rfl rfl ?_⟩
    obtain ⟨r4, hr4, h⟩ := bindO h
    refine AOps_callL [] 19 _ _ _ _ _ _ _ _ _ _ rfl rfl rfl rfl rfl rfl rfl Try.call14 rfl (nodupB_sound _ rfl) rfl rfl rfl (spec_CupsAndCaps_ac k r3 _ hr4) ?_
    rintro _ _ ⟨rfl, rfl⟩
    refine ⟨(fun _ h => nomatch h), (allc (flat_s _) (allc (flat_s _) (allc (flat_s _) (fun _ h => nomatch h)))), AOps_as 19 (v' := .tup [iV r4.1, iV r4.2.1, iV r4.2.2]) (H' := [.vec 0 (rowsD r3)]) rfl rfl ?_⟩
    refine AOps_q 16 _ rfl rfl rfl (QOp_move _ _ rfl rfl) ?_
    refine AOps_q 20 _ rfl rfl rfl (QOp_extract _ _ _ _ rfl rfl rfl) ?_
    refine AOps_q 21 _ rfl rfl rfl (QOp_extract _ _ _ _ rfl rfl rfl) ?_
    refine AOps_q 22 _ rfl rfl rfl (QOp_extract _ _ _ _ rfl rfl rfl) ?_
    refine AOps_q 4 _ rfl rfl rfl (QOp_assign _ _ rfl rfl) ?_
    refine AOps_q 5 _ rfl rfl rfl (QOp_assign _ _ rfl rfl) ?_
    refine AOps_q 6 _ rfl rfl rfl (QOp_assign _ _ rfl rfl) ?_
    refine AOps_nil ?_
    refine ACode_seq (ACode_region ?_)
    refine AOps_q 23 _ rfl rfl rfl (QOp_move _ _ rfl rfl) ?_
    obtain ⟨r5, hr5, h⟩ := bindO h
    refine AOps_call [] 24 _ _ _ _ _ _ _ _ _ _ rfl rfl rfl rfl rfl rfl rfl Try.call15 rfl (nodupB_sound _ rfl) rfl rfl rfl (laws_toInt64SS_ac k p0 _ hr5) ?_
    rintro _ _ ⟨rfl, rfl⟩
    refine ⟨(allc (fun _ _ => trivial) (fun _ h => nomatch h)), (allc (trivial) (fun _ h => nomatch h)), AOps_as 24 (v' := .vec 1 0) (H' := [.vec 0 (rowsD r3), .vec 0 (rowsD r5)]) rfl rfl ?_⟩
    refine AOps_q 7 _ rfl rfl rfl (QOp_assign _ _ rfl rfl) ?_
    refine AOps_nil ?_
    refine ACode_seq (ACode_region ?_)
    refine AOps_q 26 _ rfl rfl rfl (QOp_move _ _ rfl rfl) ?_
    obtain ⟨r6, hr6, h⟩ := bindO h
    refine AOps_callL [] 27 _ _ _ _ _ _ _ _ _ _ rfl rfl rfl rfl rfl rfl rfl Try.call16 rfl (nodupB_sound _ rfl) rfl rfl rfl (impl_CupsAndCaps_ac k r5 _ hr6) ?_
    rintro _ _ ⟨rfl, rfl⟩
    refine ⟨(fun _ h => nomatch h), (allc (flat_s _) (allc (flat_s _) (allc (flat_s _) (fun _ h => nomatch h)))), AOps_as 27 (v' := .tup [iV r6.1, iV r6.2.1, iV r6.2.2]) (H' := [.vec 0 (rowsD r3), .vec 0 (rowsD r5)]) rfl rfl ?_⟩
    refine AOps_q 25 _ rfl rfl rfl (QOp_move _ _ rfl rfl) ?_
    refine AOps_q 28 _ rfl rfl rfl (QOp_extract _ _ _ _ rfl rfl rfl) ?_
    refine AOps_q 29 _ rfl rfl rfl (QOp_extract _ _ _ _ rfl rfl rfl) ?_
    refine AOps_q 30 _ rfl rfl rfl (QOp_extract _ _ _ _ rfl rfl rfl) ?_
    refine AOps_q 8 _ rfl rfl rfl (QOp_assign _ _ rfl rfl) ?_
    refine AOps_q 9 _ rfl rfl rfl (QOp_assign _ _ rfl rfl) ?_
    refine AOps_q 10 _ rfl rfl rfl (QOp_assign _ _ rfl rfl) ?_
    refine AOps_nil ?_
    obtain ⟨os11, hss11, hks11⟩ := bindO h
    clear h
    refine ACode_seqJ (fun E' H' => ∃ s11 : Unit, os11 = .inl s11 ∧ Weak 49 G E' H' [(0, .d (.sl none (rowsD p0))), (7, .vec 0 0)] [.vec 0 (rowsD r5)]) ?_ ?_
    · have h := hss11
      clear hss11
      obtain ⟨s9, hss9, hks9⟩ := letS h
      clear h
      refine ACode_seqJ (fun E' H' => Weak 49 G E' H' [(0, .d (.sl none (rowsD p0))), (7, .vec 0 0), (43, bV s9)] [.vec 0 (rowsD r5)]) ?_ ?_
      · have h := hss9
        clear hss9
        refine (ACode_region ?_)
        refine AOps_q 31 _ rfl rfl rfl (QOp_move _ _ rfl rfl) ?_
        refine AOps_q 32 _ rfl rfl rfl (QOp_move _ _ rfl rfl) ?_
        refine AOps_q 33 _ rfl rfl rfl (QOp_neq _ _ _ _ _ _ _ rfl rfl rfl) ?_
        refine AOps_q 34 _ rfl rfl rfl (QOp_move _ _ rfl rfl) ?_
        refine AOps_case 34 _ rfl (fun hb7 => ?_) (fun hb7 => ?_)
        · have h := iteT hb7 h
          refine AOps_skip 35 rfl rfl rfl ?_
          refine AOps_skip 36 rfl rfl rfl ?_
          refine AOps_skip 37 rfl rfl rfl ?_
          refine AOps_q 38 _ rfl rfl rfl (QOp_pick_t _ _ _ _ rfl rfl rfl) ?_
          refine AOps_q 39 _ rfl rfl rfl (QOp_move _ _ rfl rfl) ?_
          refine AOps_skip 40 rfl rfl rfl ?_
          refine AOps_skip 41 rfl rfl rfl ?_
          refine AOps_skip 42 rfl rfl rfl ?_
          refine AOps_q 43 _ rfl rfl rfl (QOp_pick_t _ _ _ _ rfl rfl rfl) ?_
          refine AOps_nil ?_
          cases h
          exact Weak_keep 0 hm [0, 7, 43] [1] _ _ rfl rfl rfl
        · have h := iteF hb7 h
          refine AOps_q 35 _ rfl rfl rfl (QOp_move _ _ rfl rfl) ?_
          refine AOps_q 36 _ rfl rfl rfl (QOp_move _ _ rfl rfl) ?_
          refine AOps_q 37 _ rfl rfl rfl (QOp_neq _ _ _ _ _ _ _ rfl rfl rfl) ?_
          refine AOps_q 38 _ rfl rfl rfl (QOp_pick_f _ _ _ _ rfl rfl rfl) ?_
          refine AOps_q 39 _ rfl rfl rfl (QOp_move _ _ rfl rfl) ?_
          refine AOps_case 39 _ rfl (fun hb8 => ?_) (fun hb8 => ?_)
          · have h := iteT hb8 h
            refine AOps_skip 40 rfl rfl rfl ?_
            refine AOps_skip 41 rfl rfl rfl ?_
            refine AOps_skip 42 rfl rfl rfl ?_
            refine AOps_q 43 _ rfl rfl rfl (QOp_pick_t _ _ _ _ rfl rfl rfl) ?_
            refine AOps_nil ?_
            cases h
            exact Weak_keep 0 hm [0, 7, 43] [1] _ _ rfl rfl rfl
          · have h := iteF hb8 h
            refine AOps_q 40 _ rfl rfl rfl (QOp_move _ _ rfl rfl) ?_
            refine AOps_q 41 _ rfl rfl rfl (QOp_move _ _ rfl rfl) ?_
            refine AOps_q 42 _ rfl rfl rfl (QOp_neq _ _ _ _ _ _ _ rfl rfl rfl) ?_
            refine AOps_q 43 _ rfl rfl rfl (QOp_pick_f _ _ _ _ rfl rfl rfl) ?_
            refine AOps_nil ?_
            cases h
            exact Weak_keep 0 hm [0, 7, 43] [1] _ _ rfl rfl rfl
      intro E' H' hw
      refine ACode_weak hw ?_
      have h := hks9
      refine ACode_cond _ rfl (fun hb10 => ?_) (fun hb10 => ?_)
      · have h := iteT hb10 h
        refine ACode_seq (ACode_region ?_)
        refine AOps_q 2 _ rfl rfl rfl (QOp_assign _ _ rfl rfl) ?_
        refine AOps_nil ?_
        refine ACode_ret ?_
        cases h
        have h := hks11
        cases h
        exact ⟨_, _, fun r a w h => ⟨r, h⟩, _, _, [], _, (.cons (ResV_tmp _ _ rfl) .nil), rfl, rfl, rfl, rfl, rfl⟩
      · have h := iteF hb10 h
        refine ACode_skip ?_
        cases h
        exact ⟨_, rfl, Weak_keep 0 hm [0, 7] [0] _ _ rfl rfl rfl⟩
    rintro E' H' ⟨s11, rfl, hw⟩
    refine ACode_weak hw ?_
    have h := hks11
    refine ACode_seq ?_
    refine ACode_seq (ACode_region ?_)
    refine AOps_q 44 _ rfl rfl rfl (QOp_move _ _ rfl rfl) ?_
    refine AOps_q 45 _ rfl rfl rfl (QOp_move _ _ rfl rfl) ?_
    obtain ⟨r12, hr12, h⟩ := bindO h
    refine AOps_call [] 46 _ _ _ _ _ _ _ _ _ _ rfl rfl rfl rfl rfl rfl rfl Try.call15 rfl (nodupB_sound _ rfl) rfl rfl rfl (laws_toInt64SS_ac k p0 _ hr12) ?_
    rintro _ _ ⟨rfl, rfl⟩
    refine ⟨(allc (fun _ _ => trivial) (fun _ h => nomatch h)), (allc (trivial) (fun _ h => nomatch h)), AOps_as 46 (v' := .vec 1 0) (H' := [.vec 0 (rowsD r5), .vec 0 (rowsD r12)]) rfl rfl ?_⟩
    obtain ⟨r13, hr13, h⟩ := bindO h
    refine AOps_callL [] 47 _ _ _ _ _ _ _ _ _ _ rfl rfl rfl rfl rfl rfl rfl Try.call10 rfl (nodupB_sound _ rfl) rfl rfl rfl (laws_eqInt64SS_ac k r5 r12 _ hr13) ?_
    rintro _ _ ⟨rfl, rfl⟩
    refine ⟨(fun _ h => nomatch h), (allc (flat_s _) (fun _ h => nomatch h)), AOps_as 47 (v' := bV r13) (H' := [.vec 0 (rowsD r5), .vec 0 (rowsD r12)]) rfl rfl ?_⟩
    refine AOps_q 48 _ rfl rfl rfl (QOp_not _ _ _ rfl rfl) ?_
    refine AOps_nil ?_
    refine ACode_cond _ rfl (fun hb14 => ?_) (fun hb14 => ?_)
    · have h := iteT hb14 h
      refine ACode_seq (ACode_region ?_)
      refine AOps_q 2 _ rfl rfl rfl (QOp_assign _ _ rfl rfl) ?_
      refine AOps_nil ?_
      refine ACode_ret ?_
      cases h
      exact ⟨_, _, fun r a w h => ⟨r, h⟩, _, _, [], _, (.cons (ResV_tmp _ _ rfl) .nil), rfl, rfl, rfl, rfl, rfl⟩
    · have h := iteF hb14 h
      refine ACode_skip ?_
      refine ACode_seq (ACode_region ?_)
      refine AOps_q 2 _ rfl rfl rfl (QOp_assign _ _ rfl rfl) ?_
      refine AOps_nil ?_
      refine ACode_ret ?_
      cases h
      exact ⟨_, _, fun r a w h => ⟨r, h⟩, _, _, [], _, (.cons (ResV_tmp _ _ rfl) .nil), rfl, rfl, rfl, rfl, rfl⟩

end Go.Proofs.Ytmmiokljmfkoiaa
