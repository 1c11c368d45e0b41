/- Plain functions of the program and that the program computes them: printed by the own tool gen.py. No conditions. -/
import Derived.Test.YtfpcopidcagdaaaGen17c
set_option linter.unusedVariables false
set_option linter.unusedSimpArgs false
namespace Go.Proofs.Ytfpcopidcagdaaa
open Go Go.RowKit Ab

-- loop.example/g01362/laws.rows9
def laws_rows9_l0 (k : Nat) (p0 : List (List Int)) (p1 : List (List Int)) : Nat → Int → Option (Sum (Unit) (Bool))
  | 0, _ => none
  | k0 + 1, x2 => (if decide (x2 < (p0.length : Int)) then (if 0 ≤ x2 ∧ x2 < (p0.length : Int) then (if 0 ≤ x2 ∧ x2 < (p1.length : Int) then (laws_likeInts k (p0.getD x2.toNat []) (p1.getD x2.toNat [])).bind fun r6 => (if !r6 then some (.inr false) else laws_rows9_l0 k p0 p1 k0 (w64 (x2 + 1))) else none) else none) else some (.inl ()))
def laws_rows9 (k : Nat) (p0 : List (List Int)) (p1 : List (List Int)) : Option (Bool) :=
  (if !decide ((p0.length : Int) = (p1.length : Int)) then some false else (laws_rows9_l0 k p0 p1 k 0 : Option (Sum (Unit) (Bool))).bind fun os8 => (match os8 with | .inl s8 => some true | .inr rr => some rr))
set_option maxRecDepth 100000 in
theorem laws_rows9_ac (k : Nat) (p0 : List (List Int)) (p1 : List (List Int)) (r : Bool) (h : laws_rows9 k p0 p1 = some r) : AC Try.prog 39 [.d (.sl none (rowsD p0)), .d (.sl none (rowsD p1))] [] (fun res H' => res = [bV r] ∧ H' = []) := by
  refine AC_of_body true Try.func39 rfl Try.ntmps39 (rvs := [.tmp 4]) rfl rfl (fun G hG => ?_)
  have hm : G.H.length = 0 := by rw [hG]; rfl
  have hz : zeroG G.H = true := by rw [hG]; rfl
  unfold laws_rows9 at h
  refine ACode_seq (ACode_region ?_)
  refine AOps_q 4 _ rfl rfl rfl (QOp_assign _ _ rfl rfl) ?_
  refine AOps_nil ?_
  refine ACode_seq ?_
  refine ACode_seq (ACode_region ?_)
  refine AOps_q 6 _ rfl rfl rfl (QOp_move _ _ rfl rfl) ?_
  refine AOps_q 7 _ rfl rfl rfl (QOp_len_sl _ _ _ _ _ _ _ (rowsD_length _) rfl rfl rfl rfl Try.underlying46 rfl) ?_
  refine AOps_q 8 _ rfl rfl rfl (QOp_move _ _ rfl rfl) ?_
  refine AOps_q 9 _ rfl rfl rfl (QOp_len_sl _ _ _ _ _ _ _ (rowsD_length _) rfl rfl rfl rfl Try.underlying46 rfl) ?_
  refine AOps_q 10 _ rfl rfl rfl (QOp_neq _ _ _ _ _ _ _ rfl rfl rfl) ?_
  refine AOps_nil ?_
  refine ACode_cond _ rfl (fun hb1 => ?_) (fun hb1 => ?_)
  · have h := iteT hb1 h
    refine ACode_seq (ACode_region ?_)
    refine AOps_q 4 _ rfl rfl rfl (QOp_assign _ _ rfl rfl) ?_
    refine AOps_nil ?_
    refine ACode_ret ?_
    cases h
    exact ⟨_, _, fun r a w h => ⟨r, h⟩, _, _, [], _, (.cons (ResV_tmp _ _ rfl) .nil), rfl, rfl, rfl, rfl, rfl⟩
  · have h := iteF hb1 h
    refine ACode_skip ?_
    obtain ⟨os8, hss8, hks8⟩ := bindO h
    clear h
    refine ACode_seqJ (fun E' H' => ∃ s8 : Unit, os8 = .inl s8 ∧ Weak 27 G E' H' [] []) ?_ ?_
    · have h := hss8
      clear hss8
      refine ACode_seq (ACode_region ?_)
      refine AOps_q 5 _ rfl rfl rfl (QOp_assign _ _ rfl rfl) ?_
      refine AOps_nil ?_
      refine ACode_block ?_
      refine ACode_loopW (fun k0 E H => ∃ (x2 : Int), E = [(0, .d (.sl none (rowsD p0))), (1, .d (.sl none (rowsD p1))), (5, iV x2)] ∧ H = [] ∧ laws_rows9_l0 k p0 p1 k0 x2 = some os8) k _ _ (Weak_keep 0 hm [0, 1, 5] [] _ _ rfl rfl rfl) ⟨_, rfl, rfl, h⟩ ?_
      clear h
      rintro k0 E H ⟨x2, rfl, rfl, h⟩
      cases k0 with
      | zero => cases (show (none : Option (Sum (Unit) (Bool))) = some _ from h)
      | succ k0 =>
        rw [laws_rows9_l0] at h
        refine ACode_seq ?_
        refine ACode_seq (ACode_region ?_)
        refine AOps_q 11 _ rfl rfl rfl (QOp_move _ _ rfl rfl) ?_
        refine AOps_q 12 _ rfl rfl rfl (QOp_move _ _ rfl rfl) ?_
        refine AOps_q 13 _ rfl rfl rfl (QOp_len_sl _ _ _ _ _ _ _ (rowsD_length _) rfl rfl rfl rfl Try.underlying46 rfl) ?_
        refine AOps_q 14 _ rfl rfl rfl (QOp_lss _ _ _ _ _ _ _ rfl rfl rfl) ?_
        refine AOps_nil ?_
        refine ACode_cond _ rfl (fun hb3 => ?_) (fun hb3 => ?_)
        · have h := iteT hb3 h
          refine ACode_skip ?_
          refine ACode_seq ?_
          refine ACode_block ?_
          refine ACode_seq (ACode_quiet mixed (by kernel_rfl) ?_)
          refine AQ_q 17 _ rfl rfl rfl (QOp_move _ _ rfl rfl) ?_
          refine AQ_q 18 _ rfl rfl rfl (QOp_move _ _ rfl rfl) ?_
          obtain ⟨hc4, h⟩ := guardO h
          refine AQ_q 19 _ rfl rfl rfl (QOp_indexAddr_sl _ _ _ _ _ _ _ _ rfl Try.underlying46 Try.sizeOf29 hc4.1 (by rw [rowsD_length]; exact hc4.2) rfl rfl) ?_
          refine AQ_q 20 _ rfl rfl rfl (QOp_load_pv _ _ _ _ _ rfl Try.isAgg29 rfl (rowsD_get _ _ [] (by omega))) ?_
          refine AQ_q 21 _ rfl rfl rfl (QOp_move _ _ rfl rfl) ?_
          refine AQ_q 22 _ rfl rfl rfl (QOp_move _ _ rfl rfl) ?_
          obtain ⟨hc5, h⟩ := guardO h
          refine AQ_q 23 _ rfl rfl rfl (QOp_indexAddr_sl _ _ _ _ _ _ _ _ rfl Try.underlying46 Try.sizeOf29 hc5.1 (by rw [rowsD_length]; exact hc5.2) rfl rfl) ?_
          refine AQ_q 24 _ rfl rfl rfl (QOp_load_pv _ _ _ _ _ rfl Try.isAgg29 rfl (rowsD_get _ _ [] (by omega))) ?_
          obtain ⟨r6, hr6, h⟩ := bindO h
          refine AQ_call 25 _ _ _ _ _ _ _ _ _ rfl rfl rfl rfl rfl rfl rfl Try.call10 rfl rfl rfl (laws_likeInts_ac k (p0.getD x2.toNat []) (p1.getD x2.toNat []) _ hr6) ?_
          refine AQ_q 26 _ rfl rfl rfl (QOp_not _ _ _ rfl rfl) ?_
          refine AQ_nil ?_
          refine ACode_cond _ rfl (fun hb7 => ?_) (fun hb7 => ?_)
          · have h := iteT hb7 h
            refine ACode_seq (ACode_region ?_)
            refine AOps_q 4 _ rfl rfl rfl (QOp_assign _ _ rfl rfl) ?_
            refine AOps_nil ?_
            refine ACode_ret ?_
            cases h
            have h := hks8
            cases h
            exact ⟨_, _, fun r a w h => ⟨r, h⟩, _, _, [], _, (.cons (ResV_tmp _ _ rfl) .nil), rfl, rfl, rfl, rfl, rfl⟩
          · have h := iteF hb7 h
            refine ACode_skip ?_
            refine (ACode_region ?_)
            refine AOps_q 15 _ rfl rfl rfl (QOp_move _ _ rfl rfl) ?_
            refine AOps_q 16 _ rfl rfl rfl (QOp_add _ _ _ _ _ _ _ rfl rfl rfl) ?_
            refine AOps_q 5 _ rfl rfl rfl (QOp_assign _ _ rfl rfl) ?_
            refine AOps_nil ?_
            exact ⟨k0, _, _, Nat.lt_succ_self _, Weak_keep 0 hm [0, 1, 5] [] _ _ rfl rfl rfl, _, rfl, rfl, h⟩
        · have h := iteF hb3 h
          refine ACode_exit ?_
          cases h
          exact ⟨_, rfl, Weak_keep 0 hm [] [] _ _ rfl rfl rfl⟩
    rintro E' H' ⟨s8, rfl, hw⟩
    refine ACode_weak hw ?_
    have h := hks8
    refine ACode_seq (ACode_region ?_)
    refine AOps_q 4 _ rfl rfl rfl (QOp_assign _ _ rfl rfl) ?_
    refine AOps_nil ?_
    refine ACode_ret ?_
    cases h
    exact ⟨_, _, fun r a w h => ⟨r, h⟩, _, _, [], _, (.cons (ResV_tmp _ _ rfl) .nil), rfl, rfl, rfl, rfl, rfl⟩

-- loop.example/g01362/spec.DrawSidesOf
def spec_DrawSidesOf (k : Nat) (p0 : List UInt8) : Option (Col × Int) :=
  (spec_DrawComponentsOf k p0).bind fun r1 => some (r1.1, r1.2)
set_option maxRecDepth 100000 in
theorem spec_DrawSidesOf_ac (k : Nat) (p0 : List UInt8) (r : Col × Int) (h : spec_DrawSidesOf k p0 = some r) : AC Try.prog 40 [.d (.sl none (bysD p0))] [] (fun res H' => res = [.d (.agg (colD r.1)), iV r.2] ∧ H' = []) := by
  refine AC_of_body true Try.func40 rfl Try.ntmps40 (rvs := [.cell 2 26, .tmp 3]) rfl rfl (fun G hG => ?_)
  have hm : G.H.length = 0 := by rw [hG]; rfl
  have hz : zeroG G.H = true := by rw [hG]; rfl
  unfold spec_DrawSidesOf at h
  refine ACode_seq (ACode_region ?_)
  refine AOps_alloc 2 _ _ (colD Col.zero) (zero_of Try.typeInfo26 rfl) (by rfl) rfl rfl rfl rfl ?_
  refine AOps_q 3 _ rfl rfl rfl (QOp_assign _ _ rfl rfl) ?_
  refine AOps_nil ?_
  refine ACode_seq (ACode_region ?_)
  refine AOps_q 4 _ rfl rfl rfl (QOp_move _ _ rfl rfl) ?_
  obtain ⟨r1, hr1, h⟩ := bindO h
  refine AOps_call [] 5 _ _ _ _ _ _ _ _ _ _ rfl rfl rfl rfl rfl rfl rfl Try.call36 rfl (nodupB_sound _ rfl) rfl rfl rfl (spec_DrawComponentsOf_ac k p0 _ hr1) ?_
  rintro _ _ ⟨rfl, rfl⟩
  refine ⟨(fun _ h => nomatch h), (allc (trivial) (allc (trivial) (fun _ h => nomatch h))), AOps_as 5 (v' := .tup [.d (.agg (colD r1.1)), iV r1.2]) (H' := [.box (colD Col.zero)]) rfl rfl ?_⟩
  refine AOps_q 6 _ rfl rfl rfl (QOp_extract _ _ _ _ rfl rfl rfl) ?_
  refine AOps_q 7 _ rfl rfl rfl (QOp_extract _ _ _ _ rfl rfl rfl) ?_
  refine AOps_store _ _ _ _ _ _ (colD _) _ _ rfl rfl rfl rfl rfl rfl rfl (colD_one _) (by rw [colD_length]; exact Try.sizeOf26) (by rw [colD_length, colD_length]; decide) (colD_whole _ _) ?_
  refine AOps_q 3 _ rfl rfl rfl (QOp_assign _ _ rfl rfl) ?_
  refine AOps_nil ?_
  refine ACode_ret ?_
  cases h
  exact ⟨_, _, fun r a w h => ⟨r, h⟩, _, _, [], _, (.cons (ResV_agg _ _ _ _ _ _ Try.isAgg26 Try.sizeOf26 rfl rfl (colD_take _) (colD_length _)) (.cons (ResV_tmp _ _ rfl) .nil)), rfl, rfl, rfl, rfl, rfl⟩

-- loop.example/g01362/impl.SidesOf
def impl_SidesOf_l0 (r3 : List (List Int) × List Int) : Nat → Int → (List Int) → Option (List Int)
  | 0, _, _ => none
  | k0 + 1, x4, x5 => (if decide (x4 < (r3.2.length : Int)) then (if 0 ≤ x4 ∧ x4 < (x5.length : Int) then (if 0 ≤ x4 ∧ x4 < (x5.length : Int) then impl_SidesOf_l0 r3 k0 (w64 (x4 + 1)) (x5.set x4.toNat ((x5.getD x4.toNat 0).tmod 2)) else none) else none) else some x5)
def impl_SidesOf_l2 (s9 : List Int) (x10 : Int) (r12 : List Int) : Nat → Int → Option (Sum (Unit) (Sum (Unit) (Option (List Int) × Int)))
  | 0, _ => none
  | k2 + 1, x13 => (if decide (x13 < (r12.length : Int)) then (if 0 ≤ x13 ∧ x13 < (r12.length : Int) then (if 0 ≤ x10 ∧ x10 < (s9.length : Int) then (if 0 ≤ (r12.getD x13.toNat 0) ∧ (r12.getD x13.toNat 0) < (s9.length : Int) then (if decide ((s9.getD x10.toNat 0) = (s9.getD (r12.getD x13.toNat 0).toNat 0)) then (some (.inr (none, 4))).bind fun rr => some (.inr rr) else impl_SidesOf_l2 s9 x10 r12 k2 (w64 (x13 + 1))) else none) else none) else none) else some (.inl ()))
def impl_SidesOf_l1 (k : Nat) (p0 : Col) (p1 : Int) (s9 : List Int) : Nat → Int → Option (Sum (Unit) (Option (List Int) × Int))
  | 0, _ => none
  | k1 + 1, x10 => (if decide (x10 < p0.p) then ((impl_Colouring_neighbours k p0 x10 p1).bind fun r12 => impl_SidesOf_l2 s9 x10 r12 k 0 : Option (Sum (Unit) (Sum (Unit) (Option (List Int) × Int)))).bind fun os19 => (match os19 with | .inl s19 => impl_SidesOf_l1 k p0 p1 s9 k1 (w64 (x10 + 1)) | .inr rr => some rr) else some (.inl ()))
def impl_SidesOf (k : Nat) (p0 : Col) (p1 : Int) : Option (Option (List Int) × Int) :=
  (impl_Colouring_colourCode k p0 p1 true).bind fun r1 => (if !decide (r1 = 0) then some (none, r1) else (impl_Colouring_walk k p0 p1).bind fun r3 => (impl_SidesOf_l0 r3 k 0 r3.2 : Option (List Int)).bind fun s9 => (impl_SidesOf_l1 k p0 p1 s9 k 0 : Option (Sum (Unit) (Option (List Int) × Int))).bind fun os20 => (match os20 with | .inl s20 => some (some s9, 0) | .inr rr => some rr))
set_option maxRecDepth 100000 in
theorem impl_SidesOf_ac (k : Nat) (p0 : Col) (p1 : Int) (r : Option (List Int) × Int) (h : impl_SidesOf k p0 p1 = some r) : AC Try.prog 41 [.d (.agg (colD p0)), iV p1] [] (fun res H' => res = [ownA 0 (r.1.map intsD), iV r.2] ∧ H' = [] ++ ownH (r.1.map intsD)) := by
  refine AC_of_body false Try.func41 rfl Try.ntmps41 (rvs := [.tmp 4, .tmp 5]) rfl rfl (fun G hG => ?_)
  have hm : G.H.length = 0 := by rw [hG]; rfl
  have hz : zeroG G.H = true := by rw [hG]; rfl
  unfold impl_SidesOf at h
  refine ACode_seq (ACode_region ?_)
  refine AOps_boxI 2 _ _ (.agg (colD p0)) (colD p0) rfl (colD_one _) rfl rfl rfl rfl rfl ?_
  refine AOps_q 4 _ rfl rfl rfl (QOp_assign _ _ rfl rfl) ?_
  refine AOps_q 5 _ rfl rfl rfl (QOp_assign _ _ rfl rfl) ?_
  refine AOps_nil ?_
  refine ACode_seq ?_
  refine ACode_seq (ACode_region ?_)
  refine AOps_q 13 _ rfl rfl rfl (QOp_move _ _ rfl rfl) ?_
  obtain ⟨r1, hr1, h⟩ := bindO h
  refine AOps_call [] 14 _ _ _ _ _ _ _ _ _ _ rfl rfl rfl rfl rfl rfl rfl Try.call48 rfl (nodupB_sound _ rfl) rfl rfl rfl (impl_Colouring_colourCode_ac k p0 p1 true _ hr1) ?_
  rintro _ _ ⟨rfl, rfl⟩
  refine ⟨(fun _ h => nomatch h), (allc (trivial) (fun _ h => nomatch h)), AOps_as 14 (v' := iV r1) (H' := []) rfl rfl ?_⟩
  refine AOps_q 6 _ rfl rfl rfl (QOp_assign _ _ rfl rfl) ?_
  refine AOps_nil ?_
  refine ACode_seq (ACode_region ?_)
  refine AOps_q 15 _ rfl rfl rfl (QOp_move _ _ rfl rfl) ?_
  refine AOps_q 16 _ rfl rfl rfl (QOp_neq _ _ _ _ _ _ _ rfl rfl rfl) ?_
  refine AOps_nil ?_
  refine ACode_cond _ rfl (fun hb2 => ?_) (fun hb2 => ?_)
  · have h := iteT hb2 h
    refine ACode_seq (ACode_region ?_)
    refine AOps_q 17 _ rfl rfl rfl (QOp_move _ _ rfl rfl) ?_
    refine AOps_q 4 _ rfl rfl rfl (QOp_assign _ _ rfl rfl) ?_
    refine AOps_q 5 _ rfl rfl rfl (QOp_assign _ _ rfl rfl) ?_
    refine AOps_nil ?_
    refine ACode_ret ?_
    cases h
    exact ⟨_, _, fun r a w h => ⟨r, h⟩, _, _, [], _, (.cons (ResV_tmp _ _ rfl) (.cons (ResV_tmp _ _ rfl) .nil)), rfl, rfl, rfl, rfl, rfl⟩
  · have h := iteF hb2 h
    refine ACode_skip ?_
    refine ACode_seq (ACode_region ?_)
    refine AOps_q 19 _ rfl rfl rfl (QOp_move _ _ rfl rfl) ?_
    obtain ⟨r3, hr3, h⟩ := bindO h
    refine AOps_call [] 20 _ _ _ _ _ _ _ _ _ _ rfl rfl rfl rfl rfl rfl rfl Try.call100 rfl (nodupB_sound _ rfl) rfl rfl rfl (impl_Colouring_walk_ac k p0 p1 _ hr3) ?_
    rintro _ _ ⟨rfl, rfl⟩
    refine ⟨(allc (fun _ _ => trivial) (allc (fun _ _ => trivial) (fun _ h => nomatch h))), (allc (trivial) (allc (trivial) (fun _ h => nomatch h))), AOps_as 20 (v' := .tup [.vec 0 0, .vec 1 0]) (H' := [.vec 0 (rowsD r3.1), .vec 0 (intsD r3.2)]) rfl rfl ?_⟩
    refine AOps_q 18 _ rfl rfl rfl (QOp_move _ _ rfl rfl) ?_
    refine AOps_q 21 _ rfl rfl rfl (QOp_extract _ _ _ _ rfl rfl rfl) ?_
    refine AOps_q 22 _ rfl rfl rfl (QOp_extract _ _ _ _ rfl rfl rfl) ?_
    refine AOps_q 7 _ rfl rfl rfl (QOp_assign _ _ rfl rfl) ?_
    refine AOps_q 8 _ rfl rfl rfl (QOp_assign _ _ rfl rfl) ?_
    refine AOps_nil ?_
    obtain ⟨s9, hss9, hks9⟩ := bindO h
    clear h
    refine ACode_seqJ (fun E' H' => Weak 60 G E' H' [(1, iV p1), (2, .d (.pv (colD p0) 0)), (8, .vec 0 0)] [.vec 0 (intsD s9)]) ?_ ?_
    · have h := hss9
      clear hss9
      refine ACode_seq (ACode_region ?_)
      refine AOps_q 23 _ rfl rfl rfl (QOp_move _ _ rfl rfl) ?_
      refine AOps_q 24 _ rfl rfl rfl (QOp_len_vec _ _ _ _ _ _ _ _ (intsD_length _) rfl rfl rfl rfl Try.underlying29 rfl rfl) ?_
      refine AOps_q 25 _ rfl rfl rfl (QOp_move _ _ rfl rfl) ?_
      refine AOps_nil ?_
      refine ACode_block ?_
      refine ACode_loopW (fun k0 E H => ∃ (x4 : Int) (x5 : List Int), E = [(1, iV p1), (2, .d (.pv (colD p0) 0)), (8, .vec 0 0), (24, iV (r3.2.length : Int)), (25, iV x4)] ∧ H = [.vec 0 (intsD x5)] ∧ impl_SidesOf_l0 r3 k0 x4 x5 = some s9) k _ _ (Weak_keep 0 hm [1, 2, 8, 24, 25] [1] _ _ rfl rfl rfl) ⟨_, _, rfl, rfl, h⟩ ?_
      clear h
      rintro k0 E H ⟨x4, x5, rfl, rfl, h⟩
      cases k0 with
      | zero => cases (show (none : Option (List Int)) = some _ from h)
      | succ k0 =>
        rw [impl_SidesOf_l0] at h
        refine ACode_seq (ACode_region ?_)
        refine AOps_q 26 _ rfl rfl rfl (QOp_lss _ _ _ _ _ _ _ rfl rfl rfl) ?_
        refine AOps_nil ?_
        refine ACode_seq ?_
        refine ACode_cond _ rfl (fun hb6 => ?_) (fun hb6 => ?_)
        · have h := iteT hb6 h
          refine ACode_skip ?_
          refine ACode_seq ?_
          refine ACode_block ?_
          refine ACode_seq (ACode_region ?_)
          refine AOps_q 27 _ rfl rfl rfl (QOp_move _ _ rfl rfl) ?_
          refine AOps_q 9 _ rfl rfl rfl (QOp_assign _ _ rfl rfl) ?_
          refine AOps_nil ?_
          refine (ACode_region ?_)
          refine AOps_q 28 _ rfl rfl rfl (QOp_move _ _ rfl rfl) ?_
          refine AOps_q 29 _ rfl rfl rfl (QOp_move _ _ rfl rfl) ?_
          obtain ⟨hc7, h⟩ := guardO h
          refine AOps_q 30 _ rfl rfl rfl (QOp_indexAddr_vec _ _ _ _ _ _ _ _ _ rfl Try.underlying29 Try.sizeOf2 hc7.1 (by rw [intsD_length]; exact hc7.2) rfl rfl rfl) ?_
          refine AOps_q 31 _ rfl rfl rfl (QOp_load_eptr _ _ _ _ _ _ _ rfl Try.isAgg2 rfl rfl (intsD_get _ _ 0 (by omega))) ?_
          refine AOps_q 32 _ rfl rfl rfl (QOp_rem _ _ _ _ _ _ _ (by decide) rfl rfl rfl) ?_
          obtain ⟨hc8, h⟩ := guardO h
          refine AOps_q 33 _ rfl rfl rfl (QOp_indexAddr_vec _ _ _ _ _ _ _ _ _ rfl Try.underlying29 Try.sizeOf2 hc8.1 (by rw [intsD_length]; exact hc8.2) rfl rfl rfl) ?_
          refine AOps_store_eptr _ _ _ _ _ _ (intsD x5) _ rfl rfl rfl rfl rfl rfl rfl Try.sizeOf2 (by rw [intsD_length]; omega) ?_
          rw [intsD_set]
          refine AOps_nil ?_
          refine (ACode_region ?_)
          refine AOps_q 34 _ rfl rfl rfl (QOp_add _ _ _ _ _ _ _ rfl rfl rfl) ?_
          refine AOps_q 25 _ rfl rfl rfl (QOp_move _ _ rfl rfl) ?_
          refine AOps_nil ?_
          exact ⟨k0, _, _, Nat.lt_succ_self _, Weak_keep 0 hm [1, 2, 8, 24, 25] [0] _ _ rfl rfl rfl, _, _, rfl, rfl, h⟩
        · have h := iteF hb6 h
          refine ACode_exit ?_
          cases h
          exact Weak_keep 0 hm [1, 2, 8] [0] _ _ rfl rfl rfl
    intro E' H' hw
    refine ACode_weak hw ?_
    have h := hks9
    obtain ⟨os20, hss20, hks20⟩ := bindO h
    clear h
    refine ACode_seqJ (fun E' H' => ∃ s20 : Unit, os20 = .inl s20 ∧ Weak 60 G E' H' [(8, .vec 0 0)] [.vec 0 (intsD s9)]) ?_ ?_
    · have h := hss20
      clear hss20
      refine ACode_seq (ACode_region ?_)
      refine AOps_q 35 _ rfl rfl rfl (QOp_fieldAddr_pv _ _ _ _ _ 0 _ _ rfl Try.underlying26 rfl _ Try.sizeOf2 rfl rfl) ?_
      refine AOps_q 36 _ rfl rfl rfl (QOp_load_pv _ _ _ _ _ rfl Try.isAgg2 rfl rfl) ?_
      refine AOps_q 37 _ rfl rfl rfl (QOp_move _ _ rfl rfl) ?_
      refine AOps_nil ?_
      refine ACode_block ?_
      refine ACode_loopW (fun k1 E H => ∃ (x10 : Int), E = [(1, iV p1), (2, .d (.pv (colD p0) 0)), (8, .vec 0 0), (36, iV p0.p), (37, iV x10)] ∧ H = [.vec 0 (intsD s9)] ∧ impl_SidesOf_l1 k p0 p1 s9 k1 x10 = some os20) k _ _ (Weak_keep 0 hm [1, 2, 8, 36, 37] [0] _ _ rfl rfl rfl) ⟨_, rfl, rfl, h⟩ ?_
      clear h
      rintro k1 E H ⟨x10, rfl, rfl, h⟩
      cases k1 with
      | zero => cases (show (none : Option (Sum (Unit) (Option (List Int) × Int))) = some _ from h)
      | succ k1 =>
        rw [impl_SidesOf_l1] at h
        refine ACode_seq (ACode_region ?_)
        refine AOps_q 38 _ rfl rfl rfl (QOp_lss _ _ _ _ _ _ _ rfl rfl rfl) ?_
        refine AOps_nil ?_
        refine ACode_seq ?_
        refine ACode_cond _ rfl (fun hb11 => ?_) (fun hb11 => ?_)
        · have h := iteT hb11 h
          refine ACode_skip ?_
          obtain ⟨os19, hss19, hks19⟩ := bindO h
          clear h
          refine ACode_seqJ (fun E' H' => ∃ s19 : Unit, os19 = .inl s19 ∧ Weak 60 G E' H' [(1, iV p1), (2, .d (.pv (colD p0) 0)), (8, .vec 0 0), (36, iV p0.p), (37, iV x10)] [.vec 0 (intsD s9)]) ?_ ?_
          · have h := hss19
            clear hss19
            refine ACode_block ?_
            refine ACode_seq (ACode_region ?_)
            refine AOps_q 39 _ rfl rfl rfl (QOp_move _ _ rfl rfl) ?_
            refine AOps_q 10 _ rfl rfl rfl (QOp_assign _ _ rfl rfl) ?_
            refine AOps_nil ?_
            refine ACode_seq (ACode_region ?_)
            refine AOps_q 40 _ rfl rfl rfl (QOp_move _ _ rfl rfl) ?_
            refine AOps_q 41 _ rfl rfl rfl (QOp_move _ _ rfl rfl) ?_
            obtain ⟨r12, hr12, h⟩ := bindO h
            refine AOps_call [] 42 _ _ _ _ _ _ _ _ _ _ rfl rfl rfl rfl rfl rfl rfl Try.call104 rfl (nodupB_sound _ rfl) rfl rfl rfl (impl_Colouring_neighbours_ac k p0 x10 p1 _ hr12) ?_
            rintro _ _ ⟨rfl, rfl⟩
            refine ⟨(allc (fun _ _ => trivial) (fun _ h => nomatch h)), (allc (trivial) (fun _ h => nomatch h)), AOps_as 42 (v' := .vec 1 0) (H' := [.vec 0 (intsD s9), .vec 0 (intsD r12)]) rfl rfl ?_⟩
            refine AOps_q 43 _ rfl rfl rfl (QOp_len_vec _ _ _ _ _ _ _ _ (intsD_length _) rfl rfl rfl rfl Try.underlying29 rfl rfl) ?_
            refine AOps_q 44 _ rfl rfl rfl (QOp_move _ _ rfl rfl) ?_
            refine AOps_nil ?_
            refine ACode_block ?_
            refine ACode_loopW (fun k2 E H => ∃ (x13 : Int), E = [(1, iV p1), (2, .d (.pv (colD p0) 0)), (8, .vec 0 0), (10, iV x10), (36, iV p0.p), (37, iV x10), (42, .vec 1 0), (43, iV (r12.length : Int)), (44, iV x13)] ∧ H = [.vec 0 (intsD s9), .vec 0 (intsD r12)] ∧ impl_SidesOf_l2 s9 x10 r12 k2 x13 = some os19) k _ _ (Weak_keep 0 hm [1, 2, 8, 10, 36, 37, 42, 43, 44] [0, 1] _ _ rfl rfl rfl) ⟨_, rfl, rfl, h⟩ ?_
            clear h
            rintro k2 E H ⟨x13, rfl, rfl, h⟩
            cases k2 with
            | zero => cases (show (none : Option (Sum (Unit) (Sum (Unit) (Option (List Int) × Int)))) = some _ from h)
            | succ k2 =>
              rw [impl_SidesOf_l2] at h
              refine ACode_seq (ACode_region ?_)
              refine AOps_q 45 _ rfl rfl rfl (QOp_lss _ _ _ _ _ _ _ rfl rfl rfl) ?_
              refine AOps_nil ?_
              refine ACode_seq ?_
              refine ACode_cond _ rfl (fun hb14 => ?_) (fun hb14 => ?_)
              · have h := iteT hb14 h
                refine ACode_skip ?_
                refine ACode_seq ?_
                refine ACode_block ?_
                refine ACode_seq (ACode_region ?_)
                obtain ⟨hc15, h⟩ := guardO h
                refine AOps_q 46 _ rfl rfl rfl (QOp_indexAddr_vec _ _ _ _ _ _ _ _ _ rfl Try.underlying29 Try.sizeOf2 hc15.1 (by rw [intsD_length]; exact hc15.2) rfl rfl rfl) ?_
                refine AOps_q 47 _ rfl rfl rfl (QOp_load_eptr _ _ _ _ _ _ _ rfl Try.isAgg2 rfl rfl (intsD_get _ _ 0 (by omega))) ?_
                refine AOps_q 12 _ rfl rfl rfl (QOp_assign _ _ rfl rfl) ?_
                refine AOps_nil ?_
                refine ACode_seq (ACode_quiet mixed (by kernel_rfl) ?_)
                refine AQ_q 48 _ rfl rfl rfl (QOp_move _ _ rfl rfl) ?_
                refine AQ_q 49 _ rfl rfl rfl (QOp_move _ _ rfl rfl) ?_
                obtain ⟨hc16, h⟩ := guardO h
                refine AQ_q 50 _ rfl rfl rfl (QOp_indexAddr_vec _ _ _ _ _ _ _ _ _ rfl Try.underlying29 Try.sizeOf2 hc16.1 (by rw [intsD_length]; exact hc16.2) rfl rfl rfl) ?_
                refine AQ_q 51 _ rfl rfl rfl (QOp_load_eptr _ _ _ _ _ _ _ rfl Try.isAgg2 rfl rfl (intsD_get _ _ 0 (by omega))) ?_
                refine AQ_q 52 _ rfl rfl rfl (QOp_move _ _ rfl rfl) ?_
                refine AQ_q 53 _ rfl rfl rfl (QOp_move _ _ rfl rfl) ?_
                obtain ⟨hc17, h⟩ := guardO h
                refine AQ_q 54 _ rfl rfl rfl (QOp_indexAddr_vec _ _ _ _ _ _ _ _ _ rfl Try.underlying29 Try.sizeOf2 hc17.1 (by rw [intsD_length]; exact hc17.2) rfl rfl rfl) ?_
                refine AQ_q 55 _ rfl rfl rfl (QOp_load_eptr _ _ _ _ _ _ _ rfl Try.isAgg2 rfl rfl (intsD_get _ _ 0 (by omega))) ?_
                refine AQ_q 56 _ rfl rfl rfl (QOp_eql _ _ _ _ _ _ _ rfl rfl rfl) ?_
                refine AQ_nil ?_
                refine ACode_cond _ rfl (fun hb18 => ?_) (fun hb18 => ?_)
                · have h := iteT hb18 h
                  refine ACode_seq (ACode_region ?_)
                  refine AOps_q 4 _ rfl rfl rfl (QOp_assign _ _ rfl rfl) ?_
                  refine AOps_q 5 _ rfl rfl rfl (QOp_assign _ _ rfl rfl) ?_
                  refine AOps_nil ?_
                  refine ACode_ret ?_
                  obtain ⟨rr, hz21, h2⟩ := bindO h
                  obtain rfl := Option.some.inj h2
                  obtain rfl := Option.some.inj (show some rr = some _ from hks19)
                  have h := hz21
                  cases h
                  have h := hks20
                  cases h
                  exact ⟨_, _, fun r a w h => ⟨r, h⟩, _, _, [], _, (.cons (ResV_tmp _ _ rfl) (.cons (ResV_tmp _ _ rfl) .nil)), rfl, rfl, rfl, rfl, rfl⟩
                · have h := iteF hb18 h
                  refine ACode_skip ?_
                  refine (ACode_region ?_)
                  refine AOps_q 57 _ rfl rfl rfl (QOp_add _ _ _ _ _ _ _ rfl rfl rfl) ?_
                  refine AOps_q 44 _ rfl rfl rfl (QOp_move _ _ rfl rfl) ?_
                  refine AOps_nil ?_
                  exact ⟨k2, _, _, Nat.lt_succ_self _, Weak_keep 0 hm [1, 2, 8, 10, 36, 37, 42, 43, 44] [0, 1] _ _ rfl rfl rfl, _, rfl, rfl, h⟩
              · have h := iteF hb14 h
                refine ACode_exit ?_
                cases h
                exact ⟨_, rfl, Weak_keep 0 hm [1, 2, 8, 36, 37] [0] _ _ rfl rfl rfl⟩
          rintro E' H' ⟨s19, rfl, hw⟩
          refine ACode_weak hw ?_
          have h := hks19
          refine (ACode_region ?_)
          refine AOps_q 58 _ rfl rfl rfl (QOp_add _ _ _ _ _ _ _ rfl rfl rfl) ?_
          refine AOps_q 37 _ rfl rfl rfl (QOp_move _ _ rfl rfl) ?_
          refine AOps_nil ?_
          exact ⟨k1, _, _, Nat.lt_succ_self _, Weak_keep 0 hm [1, 2, 8, 36, 37] [0] _ _ rfl rfl rfl, _, rfl, rfl, h⟩
        · have h := iteF hb11 h
          refine ACode_exit ?_
          cases h
          exact ⟨_, rfl, Weak_keep 0 hm [8] [0] _ _ rfl rfl rfl⟩
    rintro E' H' ⟨s20, rfl, hw⟩
    refine ACode_weak hw ?_
    have h := hks20
    refine ACode_seq (ACode_region ?_)
    refine AOps_q 59 _ rfl rfl rfl (QOp_move _ _ rfl rfl) ?_
    refine AOps_q 4 _ rfl rfl rfl (QOp_assign _ _ rfl rfl) ?_
    refine AOps_q 5 _ rfl rfl rfl (QOp_assign _ _ rfl rfl) ?_
    refine AOps_nil ?_
    refine ACode_ret ?_
    cases h
    exact ⟨_, _, Weak_reset 0 hm hz [4, 5] _ _ rfl rfl, _, _, [0], _, (.cons (ResV_tmp _ _ rfl) (.cons (ResV_tmp _ _ rfl) .nil)), rfl, rfl, rfl, rfl, rfl⟩

-- loop.example/g01362/spec.SidesOf
def spec_SidesOf_l0 : Nat → Int → (List Int) → Option (List Int)
  | 0, _, _ => none
  | k0 + 1, x5, x6 => (if decide (x5 < (x6.length : Int)) then (if 0 ≤ x5 ∧ x5 < (x6.length : Int) then spec_SidesOf_l0 k0 (w64 (x5 + 1)) (x6.set x5.toNat (-1)) else none) else some x6)
def spec_SidesOf_l3 (p0 : Col) (r3 : List Int) (x16 : Int) (x18 : List Int) : Nat → Int → (List Int) → (List Int) → Option (Sum (List Int × List Int) (Sum (List Int) (Sum (List Int) (List Int × Int))))
  | 0, _, _, _ => none
  | k3 + 1, x21, x22, x23 => (if decide (x21 < p0.p) then ((if 0 ≤ (x18.getD x16.toNat 0) ∧ (x18.getD x16.toNat 0) < (r3.length : Int) then (if 0 ≤ IntKind.u64.wrap x21 then (if decide (bAnd .i64 (bShr .i64 (r3.getD (x18.getD x16.toNat 0).toNat 0) (IntKind.u64.wrap x21)) 1 = 0) then some (.inl (x22, x23)) else (if 0 ≤ x21 ∧ x21 < (x22.length : Int) then (if 0 ≤ (x18.getD x16.toNat 0) ∧ (x18.getD x16.toNat 0) < (x22.length : Int) then (if decide ((x22.getD x21.toNat 0) = (x22.getD (x18.getD x16.toNat 0).toNat 0)) then (((some (.inr ([], 4))).bind fun rr => some (.inr rr)).bind fun rr => some (.inr rr)).bind fun rr => some (.inr rr) else (if 0 ≤ x21 ∧ x21 < (x22.length : Int) then (if decide ((x22.getD x21.toNat 0) < 0) then (if 0 ≤ (x18.getD x16.toNat 0) ∧ (x18.getD x16.toNat 0) < (x22.length : Int) then (if 0 ≤ x21 ∧ x21 < (x22.length : Int) then (if x23.length + ([x21]).length ≤ 1099511627776 then some (.inl (x22.set x21.toNat (w64 (1 - (x22.getD (x18.getD x16.toNat 0).toNat 0))), (x23 ++ ([x21])))) else none) else none) else none) else some (.inl (x22, x23))) else none)) else none) else none)) else none) else none) : Option (Sum (List Int × List Int) (Sum (List Int × List Int) (Sum (List Int) (Sum (List Int) (List Int × Int)))))).bind fun os36 => (match os36 with | .inl s36 => spec_SidesOf_l3 p0 r3 x16 x18 k3 (w64 (x21 + 1)) s36.1 s36.2 | .inr rr => some rr) else some (.inl (x22, x23)))
def spec_SidesOf_l2 (k : Nat) (p0 : Col) (r3 : List Int) : Nat → Int → (List Int) → (List Int) → Option (Sum (List Int) (Sum (List Int) (List Int × Int)))
  | 0, _, _, _ => none
  | k2 + 1, x16, x17, x18 => (if decide (x16 < (x18.length : Int)) then ((if 0 ≤ x16 ∧ x16 < (x18.length : Int) then spec_SidesOf_l3 p0 r3 x16 x18 k 0 x17 x18 else none) : Option (Sum (List Int × List Int) (Sum (List Int) (Sum (List Int) (List Int × Int))))).bind fun os37 => (match os37 with | .inl s37 => spec_SidesOf_l2 k p0 r3 k2 (w64 (x16 + 1)) s37.1 s37.2 | .inr rr => some rr) else some (.inl x17))
def spec_SidesOf_l1 (k : Nat) (p0 : Col) (r3 : List Int) : Nat → Int → (List Int) → Option (Sum (List Int) (List Int × Int))
  | 0, _, _ => none
  | k1 + 1, x10, x11 => (if decide (x10 < p0.p) then ((if 0 ≤ x10 ∧ x10 < (x11.length : Int) then (if decide (0 ≤ (x11.getD x10.toNat 0)) then some (.inl x11) else (if 0 ≤ x10 ∧ x10 < (x11.length : Int) then spec_SidesOf_l2 k p0 r3 k 0 (x11.set x10.toNat 0) ([x10]) else none)) else none) : Option (Sum (List Int) (Sum (List Int) (List Int × Int)))).bind fun os38 => (match os38 with | .inl s38 => spec_SidesOf_l1 k p0 r3 k1 (w64 (x10 + 1)) s38 | .inr rr => some rr) else some (.inl x11))
def spec_SidesOf (k : Nat) (p0 : Col) (p1 : Int) : Option (List Int × Int) :=
  (spec_l01Given k p0 p1 ([])).bind fun r1 => (if !decide (r1 = 0) then some ([], r1) else (spec_l02Rows k p0 p1).bind fun r3 => (if 0 ≤ p0.p ∧ p0.p ≤ p0.p ∧ p0.p ≤ 1099511627776 then (spec_SidesOf_l0 k 0 (List.replicate p0.p.toNat (0 : Int)) : Option (List Int)).bind fun s9 => (spec_SidesOf_l1 k p0 r3 k 0 s9 : Option (Sum (List Int) (List Int × Int))).bind fun os39 => (match os39 with | .inl s39 => some (s39, 0) | .inr rr => some rr) else none))
set_option maxRecDepth 100000 in
theorem spec_SidesOf_ac (k : Nat) (p0 : Col) (p1 : Int) (r : List Int × Int) (h : spec_SidesOf k p0 p1 = some r) : AC Try.prog 42 [.d (.agg (colD p0)), iV p1] [] (fun res H' => res = [.d (.sl none (intsD r.1)), iV r.2] ∧ H' = []) := by
  refine AC_of_body true Try.func42 rfl Try.ntmps42 (rvs := [.tmp 4, .tmp 5]) rfl rfl (fun G hG => ?_)
  have hm : G.H.length = 0 := by rw [hG]; rfl
  have hz : zeroG G.H = true := by rw [hG]; rfl
  unfold spec_SidesOf at h
  refine ACode_seq (ACode_region ?_)
  refine AOps_boxI 2 _ _ (.agg (colD p0)) (colD p0) rfl (colD_one _) rfl rfl rfl rfl rfl ?_
  refine AOps_q 4 _ rfl rfl rfl (QOp_assign _ _ rfl rfl) ?_
  refine AOps_q 5 _ rfl rfl rfl (QOp_assign _ _ rfl rfl) ?_
  refine AOps_nil ?_
  refine ACode_seq ?_
  refine ACode_seq (ACode_region ?_)
  refine AOps_q 15 _ rfl rfl rfl (QOp_loadN_pv _ _ _ _ _ _ rfl Try.isAgg26 Try.sizeOf26 rfl (colD_all _) (colD_length _)) ?_
  refine AOps_q 16 _ rfl rfl rfl (QOp_move _ _ rfl rfl) ?_
  obtain ⟨r1, hr1, h⟩ := bindO h
  refine AOps_call [] 17 _ _ _ _ _ _ _ _ _ _ rfl rfl rfl rfl rfl rfl rfl Try.call52 rfl (nodupB_sound _ rfl) rfl rfl rfl (spec_l01Given_ac k p0 p1 ([]) _ hr1) ?_
  rintro _ _ ⟨rfl, rfl⟩
  refine ⟨(fun _ h => nomatch h), (allc (trivial) (fun _ h => nomatch h)), AOps_as 17 (v' := iV r1) (H' := []) rfl rfl ?_⟩
  refine AOps_q 6 _ rfl rfl rfl (QOp_assign _ _ rfl rfl) ?_
  refine AOps_nil ?_
  refine ACode_seq (ACode_region ?_)
  refine AOps_q 18 _ rfl rfl rfl (QOp_move _ _ rfl rfl) ?_
  refine AOps_q 19 _ rfl rfl rfl (QOp_neq _ _ _ _ _ _ _ rfl rfl rfl) ?_
  refine AOps_nil ?_
  refine ACode_cond _ rfl (fun hb2 => ?_) (fun hb2 => ?_)
  · have h := iteT hb2 h
    refine ACode_seq (ACode_region ?_)
    refine AOps_q 20 _ rfl rfl rfl (QOp_move _ _ rfl rfl) ?_
    refine AOps_q 4 _ rfl rfl rfl (QOp_assign _ _ rfl rfl) ?_
    refine AOps_q 5 _ rfl rfl rfl (QOp_assign _ _ rfl rfl) ?_
    refine AOps_nil ?_
    refine ACode_ret ?_
    cases h
    exact ⟨_, _, fun r a w h => ⟨r, h⟩, _, _, [], _, (.cons (ResV_tmp _ _ rfl) (.cons (ResV_tmp _ _ rfl) .nil)), rfl, rfl, rfl, rfl, rfl⟩
  · have h := iteF hb2 h
    refine ACode_skip ?_
    obtain ⟨r3, hr3, h⟩ := bindO h
    obtain ⟨hc4, h⟩ := guardO h
    refine ACode_seqJ (fun E' H' => Weak 104 G E' H' [(2, .d (.pv (colD p0) 0)), (7, .vec 0 0), (8, .vec 1 0)] [.vec 0 (intsD r3), .vec 0 (intsD (List.replicate p0.p.toNat (0 : Int)))]) ?_ ?_
    · refine ACode_any mixed ?_
      refine AAny_q 0 21 _ rfl (by kernel_rfl) rfl rfl rfl (QOp_loadN_pv _ _ _ _ _ _ rfl Try.isAgg26 Try.sizeOf26 rfl (colD_all _) (colD_length _)) ?_
      refine AAny_q 1 22 _ rfl (by kernel_rfl) rfl rfl rfl (QOp_move _ _ rfl rfl) ?_
      refine AAny_q 3 24 _ rfl (by kernel_rfl) rfl rfl rfl (QOp_fieldAddr_pv _ _ _ _ _ 0 _ _ rfl Try.underlying26 rfl _ Try.sizeOf2 rfl rfl) ?_
      refine AAny_q 4 25 _ rfl (by kernel_rfl) rfl rfl rfl (QOp_load_pv _ _ _ _ _ rfl Try.isAgg2 rfl rfl) ?_
      refine AAny_all [2, 5] (by kernel_rfl) rfl (allc ?_ (allc ?_ (fun _ h => nomatch h)))
      · refine AStep_callN 2 23 _ _ _ _ _ _ _ _ _ rfl rfl rfl rfl rfl rfl rfl rfl Try.call101 rfl rfl rfl (spec_l02Rows_ac k p0 p1 _ hr3) ?_
        rintro _ _ ⟨rfl, rfl⟩
        refine ⟨(allc (fun _ _ => trivial) (fun _ h => nomatch h)), (allc (trivial) (fun _ h => nomatch h)), AAny_as 23 (v' := .vec 0 0) (H' := [.vec 0 (intsD r3)]) rfl rfl ?_⟩
        refine AAny_q 6 7 _ rfl (by kernel_rfl) rfl rfl rfl (QOp_assign _ _ rfl rfl) ?_
        refine AAny_all [5] (by kernel_rfl) rfl (allc ?_ (fun _ h => nomatch h))
        · refine AStep_of 5 rfl rfl (Bl_makeSlice _ _ _ _ _ _ p0.p p0.p _ (.int .i64 0) rfl Try.underlying29 Try.type2 rfl rfl rfl (by decide) rfl rfl hc4.1 hc4.2.1 hc4.2.2) ?_
          refine AOps_makeSliceG intsD iD 0 (intsD_rep · _) 26 _ _ _ _ _ _ p0.p p0.p _ (.int .i64 0) rfl rfl rfl rfl rfl rfl Try.underlying29 Try.type2 rfl rfl (by decide) rfl rfl hc4.1 hc4.2.1 hc4.2.2 ?_
          refine AOps_nil ?_
          refine AAny_q 7 8 _ rfl (by kernel_rfl) rfl rfl rfl (QOp_assign _ _ rfl rfl) ?_
          refine AAny_done (by kernel_rfl) ?_
          exact Weak_keep 0 hm [2, 7, 8] [0, 1] _ _ rfl rfl rfl
      · refine AStep_of 5 rfl rfl (Bl_makeSlice _ _ _ _ _ _ p0.p p0.p _ (.int .i64 0) rfl Try.underlying29 Try.type2 rfl rfl rfl (by decide) rfl rfl hc4.1 hc4.2.1 hc4.2.2) ?_
        refine AOps_makeSliceG intsD iD 0 (intsD_rep · _) 26 _ _ _ _ _ _ p0.p p0.p _ (.int .i64 0) rfl rfl rfl rfl rfl rfl Try.underlying29 Try.type2 rfl rfl (by decide) rfl rfl hc4.1 hc4.2.1 hc4.2.2 ?_
        refine AOps_nil ?_
        refine AAny_all [2] (by kernel_rfl) rfl (allc ?_ (fun _ h => nomatch h))
        · refine AStep_callN 2 23 _ _ _ _ _ _ _ _ _ rfl rfl rfl rfl rfl rfl rfl rfl Try.call101 rfl rfl rfl (spec_l02Rows_ac k p0 p1 _ hr3) ?_
          rintro _ _ ⟨rfl, rfl⟩
          refine ⟨(allc (fun _ _ => trivial) (fun _ h => nomatch h)), (allc (trivial) (fun _ h => nomatch h)), AAny_as 23 (v' := .vec 1 0) (H' := [.vec 0 (intsD (List.replicate p0.p.toNat (0 : Int))), .vec 0 (intsD r3)]) rfl rfl ?_⟩
          refine AAny_q 6 7 _ rfl (by kernel_rfl) rfl rfl rfl (QOp_assign _ _ rfl rfl) ?_
          refine AAny_q 7 8 _ rfl (by kernel_rfl) rfl rfl rfl (QOp_assign _ _ rfl rfl) ?_
          refine AAny_done (by kernel_rfl) ?_
          exact Weak_keep 0 hm [2, 7, 8] [1, 0] _ _ rfl rfl rfl
    intro E' H' hw
    refine ACode_weak hw ?_
    obtain ⟨s9, hss9, hks9⟩ := bindO h
    clear h
    refine ACode_seqJ (fun E' H' => Weak 104 G E' H' [(2, .d (.pv (colD p0) 0)), (7, .vec 0 0), (8, .vec 1 0)] [.vec 0 (intsD r3), .vec 0 (intsD s9)]) ?_ ?_
    · have h := hss9
      clear hss9
      refine ACode_seq (ACode_region ?_)
      refine AOps_q 9 _ rfl rfl rfl (QOp_assign _ _ rfl rfl) ?_
      refine AOps_nil ?_
      refine ACode_block ?_
      refine ACode_loopW (fun k0 E H => ∃ (x5 : Int) (x6 : List Int), E = [(2, .d (.pv (colD p0) 0)), (7, .vec 0 0), (8, .vec 1 0), (9, iV x5)] ∧ H = [.vec 0 (intsD r3), .vec 0 (intsD x6)] ∧ spec_SidesOf_l0 k0 x5 x6 = some s9) k _ _ (Weak_keep 0 hm [2, 7, 8, 9] [0, 1] _ _ rfl rfl rfl) ⟨_, _, rfl, rfl, h⟩ ?_
      clear h
      rintro k0 E H ⟨x5, x6, rfl, rfl, h⟩
      cases k0 with
      | zero => cases (show (none : Option (List Int)) = some _ from h)
      | succ k0 =>
        rw [spec_SidesOf_l0] at h
        refine ACode_seq ?_
        refine ACode_seq (ACode_region ?_)
        refine AOps_q 27 _ rfl rfl rfl (QOp_move _ _ rfl rfl) ?_
        refine AOps_q 28 _ rfl rfl rfl (QOp_move _ _ rfl rfl) ?_
        refine AOps_q 29 _ rfl rfl rfl (QOp_len_vec _ _ _ _ _ _ _ _ (intsD_length _) rfl rfl rfl rfl Try.underlying29 rfl rfl) ?_
        refine AOps_q 30 _ rfl rfl rfl (QOp_lss _ _ _ _ _ _ _ rfl rfl rfl) ?_
        refine AOps_nil ?_
        refine ACode_cond _ rfl (fun hb7 => ?_) (fun hb7 => ?_)
        · have h := iteT hb7 h
          refine ACode_skip ?_
          refine ACode_seq ?_
          refine ACode_block ?_
          refine (ACode_region ?_)
          refine AOps_q 33 _ rfl rfl rfl (QOp_move _ _ rfl rfl) ?_
          refine AOps_q 34 _ rfl rfl rfl (QOp_move _ _ rfl rfl) ?_
          obtain ⟨hc8, h⟩ := guardO h
          refine AOps_q 35 _ rfl rfl rfl (QOp_indexAddr_vec _ _ _ _ _ _ _ _ _ rfl Try.underlying29 Try.sizeOf2 hc8.1 (by rw [intsD_length]; exact hc8.2) rfl rfl rfl) ?_
          refine AOps_store_eptr _ _ _ _ _ _ (intsD x6) _ rfl rfl rfl rfl rfl rfl rfl Try.sizeOf2 (by rw [intsD_length]; omega) ?_
          rw [intsD_set]
          refine AOps_nil ?_
          refine (ACode_region ?_)
          refine AOps_q 31 _ rfl rfl rfl (QOp_move _ _ rfl rfl) ?_
          refine AOps_q 32 _ rfl rfl rfl (QOp_add _ _ _ _ _ _ _ rfl rfl rfl) ?_
          refine AOps_q 9 _ rfl rfl rfl (QOp_assign _ _ rfl rfl) ?_
          refine AOps_nil ?_
          exact ⟨k0, _, _, Nat.lt_succ_self _, Weak_keep 0 hm [2, 7, 8, 9] [0, 1] _ _ rfl rfl rfl, _, _, rfl, rfl, h⟩
        · have h := iteF hb7 h
          refine ACode_exit ?_
          cases h
          exact Weak_keep 0 hm [2, 7, 8] [0, 1] _ _ rfl rfl rfl
    intro E' H' hw
    refine ACode_weak hw ?_
    have h := hks9
    obtain ⟨os39, hss39, hks39⟩ := bindO h
    clear h
    refine ACode_seqJ (fun E' H' => ∃ s39 : List Int, os39 = .inl s39 ∧ Weak 104 G E' H' [(8, .vec 0 0)] [.vec 0 (intsD s39)]) ?_ ?_
    · have h := hss39
      clear hss39
      refine ACode_seq (ACode_region ?_)
      refine AOps_q 10 _ rfl rfl rfl (QOp_assign _ _ rfl rfl) ?_
      refine AOps_nil ?_
      refine ACode_block ?_
      refine ACode_loopW (fun k1 E H => ∃ (x10 : Int) (x11 : List Int), E = [(2, .d (.pv (colD p0) 0)), (7, .vec 0 0), (8, .vec 1 0), (10, iV x10)] ∧ H = [.vec 0 (intsD r3), .vec 0 (intsD x11)] ∧ spec_SidesOf_l1 k p0 r3 k1 x10 x11 = some os39) k _ _ (Weak_keep 0 hm [2, 7, 8, 10] [0, 1] _ _ rfl rfl rfl) ⟨_, _, rfl, rfl, h⟩ ?_
      clear h
      rintro k1 E H ⟨x10, x11, rfl, rfl, h⟩
      cases k1 with
      | zero => cases (show (none : Option (Sum (List Int) (List Int × Int))) = some _ from h)
      | succ k1 =>
        rw [spec_SidesOf_l1] at h
        refine ACode_seq ?_
        refine ACode_seq (ACode_region ?_)
        refine AOps_q 36 _ rfl rfl rfl (QOp_move _ _ rfl rfl) ?_
        refine AOps_q 37 _ rfl rfl rfl (QOp_fieldAddr_pv _ _ _ _ _ 0 _ _ rfl Try.underlying26 rfl _ Try.sizeOf2 rfl rfl) ?_
        refine AOps_q 38 _ rfl rfl rfl (QOp_load_pv _ _ _ _ _ rfl Try.isAgg2 rfl rfl) ?_
        refine AOps_q 39 _ rfl rfl rfl (QOp_lss _ _ _ _ _ _ _ rfl rfl rfl) ?_
        refine AOps_nil ?_
        refine ACode_cond _ rfl (fun hb12 => ?_) (fun hb12 => ?_)
        · have h := iteT hb12 h
          refine ACode_skip ?_
          obtain ⟨os38, hss38, hks38⟩ := bindO h
          clear h
          refine ACode_seqJ (fun E' H' => ∃ s38 : List Int, os38 = .inl s38 ∧ Weak 104 G E' H' [(2, .d (.pv (colD p0) 0)), (7, .vec 0 0), (8, .vec 1 0), (10, iV x10)] [.vec 0 (intsD r3), .vec 0 (intsD s38)]) ?_ ?_
          · have h := hss38
            clear hss38
            refine ACode_block ?_
            refine ACode_seq ?_
            refine ACode_seq (ACode_region ?_)
            refine AOps_q 42 _ rfl rfl rfl (QOp_move _ _ rfl rfl) ?_
            refine AOps_q 43 _ rfl rfl rfl (QOp_move _ _ rfl rfl) ?_
            obtain ⟨hc13, h⟩ := guardO h
            refine AOps_q 44 _ rfl rfl rfl (QOp_indexAddr_vec _ _ _ _ _ _ _ _ _ rfl Try.underlying29 Try.sizeOf2 hc13.1 (by rw [intsD_length]; exact hc13.2) rfl rfl rfl) ?_
            refine AOps_q 45 _ rfl rfl rfl (QOp_load_eptr _ _ _ _ _ _ _ rfl Try.isAgg2 rfl rfl (intsD_get _ _ 0 (by omega))) ?_
            refine AOps_q 46 _ rfl rfl rfl (QOp_geq _ _ _ _ _ _ _ rfl rfl rfl) ?_
            refine AOps_nil ?_
            refine ACode_cond _ rfl (fun hb14 => ?_) (fun hb14 => ?_)
            · have h := iteT hb14 h
              refine ACode_exit ?_
              cases h
              exact ⟨_, rfl, Weak_keep 0 hm [2, 7, 8, 10] [0, 1] _ _ rfl rfl rfl⟩
            · have h := iteF hb14 h
              refine ACode_skip ?_
              refine ACode_seq (ACode_region ?_)
              refine AOps_q 47 _ rfl rfl rfl (QOp_move _ _ rfl rfl) ?_
              refine AOps_q 48 _ rfl rfl rfl (QOp_move _ _ rfl rfl) ?_
              obtain ⟨hc15, h⟩ := guardO h
              refine AOps_q 49 _ rfl rfl rfl (QOp_indexAddr_vec _ _ _ _ _ _ _ _ _ rfl Try.underlying29 Try.sizeOf2 hc15.1 (by rw [intsD_length]; exact hc15.2) rfl rfl rfl) ?_
              refine AOps_store_eptr _ _ _ _ _ _ (intsD x11) _ rfl rfl rfl rfl rfl rfl rfl Try.sizeOf2 (by rw [intsD_length]; omega) ?_
              rw [intsD_set]
              refine AOps_nil ?_
              refine ACode_seq (ACode_region ?_)
              refine AOps_q 50 _ rfl rfl rfl (QOp_move _ _ rfl rfl) ?_
              refine AOps_buildSlice 51 _ _ _ [_] (intsD ([x10])) _ rfl rfl rfl rfl rfl (by decide) Try.underlying29 Try.sizeOf2 (zero_of Try.typeInfo2 rfl) rfl rfl (intsD_one _) ?_
              refine AOps_q 11 _ rfl rfl rfl (QOp_assign _ _ rfl rfl) ?_
              refine AOps_nil ?_
              refine ACode_seq (ACode_region ?_)
              refine AOps_q 12 _ rfl rfl rfl (QOp_assign _ _ rfl rfl) ?_
              refine AOps_nil ?_
              refine ACode_block ?_
              refine ACode_loopW (fun k2 E H => ∃ (x16 : Int) (x17 : List Int) (x18 : List Int), E = [(2, .d (.pv (colD p0) 0)), (7, .vec 0 0), (8, .vec 1 0), (10, iV x10), (11, .vec 2 0), (12, iV x16)] ∧ H = [.vec 0 (intsD r3), .vec 0 (intsD x17), .vec 0 (intsD x18)] ∧ spec_SidesOf_l2 k p0 r3 k2 x16 x17 x18 = some os38) k _ _ (Weak_keep 0 hm [2, 7, 8, 10, 11, 12] [0, 1, 2] _ _ rfl rfl rfl) ⟨_, _, _, rfl, rfl, h⟩ ?_
              clear h
              rintro k2 E H ⟨x16, x17, x18, rfl, rfl, h⟩
              cases k2 with
              | zero => cases (show (none : Option (Sum (List Int) (Sum (List Int) (List Int × Int)))) = some _ from h)
              | succ k2 =>
                rw [spec_SidesOf_l2] at h
                refine ACode_seq ?_
                refine ACode_seq (ACode_region ?_)
                refine AOps_q 52 _ rfl rfl rfl (QOp_move _ _ rfl rfl) ?_
                refine AOps_q 53 _ rfl rfl rfl (QOp_move _ _ rfl rfl) ?_
                refine AOps_q 54 _ rfl rfl rfl (QOp_len_vec _ _ _ _ _ _ _ _ (intsD_length _) rfl rfl rfl rfl Try.underlying29 rfl rfl) ?_
                refine AOps_q 55 _ rfl rfl rfl (QOp_lss _ _ _ _ _ _ _ rfl rfl rfl) ?_
                refine AOps_nil ?_
                refine ACode_cond _ rfl (fun hb19 => ?_) (fun hb19 => ?_)
                · have h := iteT hb19 h
                  refine ACode_skip ?_
                  obtain ⟨os37, hss37, hks37⟩ := bindO h
                  clear h
                  refine ACode_seqJ (fun E' H' => ∃ s37 : List Int × List Int, os37 = .inl s37 ∧ Weak 104 G E' H' [(2, .d (.pv (colD p0) 0)), (7, .vec 0 0), (8, .vec 1 0), (10, iV x10), (11, .vec 2 0), (12, iV x16)] [.vec 0 (intsD r3), .vec 0 (intsD s37.1), .vec 0 (intsD s37.2)]) ?_ ?_
                  · have h := hss37
                    clear hss37
                    refine ACode_block ?_
                    refine ACode_seq (ACode_region ?_)
                    refine AOps_q 58 _ rfl rfl rfl (QOp_move _ _ rfl rfl) ?_
                    refine AOps_q 59 _ rfl rfl rfl (QOp_move _ _ rfl rfl) ?_
                    obtain ⟨hc20, h⟩ := guardO h
                    refine AOps_q 60 _ rfl rfl rfl (QOp_indexAddr_vec _ _ _ _ _ _ _ _ _ rfl Try.underlying29 Try.sizeOf2 hc20.1 (by rw [intsD_length]; exact hc20.2) rfl rfl rfl) ?_
                    refine AOps_q 61 _ rfl rfl rfl (QOp_load_eptr _ _ _ _ _ _ _ rfl Try.isAgg2 rfl rfl (intsD_get _ _ 0 (by omega))) ?_
                    refine AOps_q 13 _ rfl rfl rfl (QOp_assign _ _ rfl rfl) ?_
                    refine AOps_nil ?_
                    refine ACode_seq (ACode_region ?_)
                    refine AOps_q 14 _ rfl rfl rfl (QOp_assign _ _ rfl rfl) ?_
                    refine AOps_nil ?_
                    refine ACode_block ?_
                    refine ACode_loopW (fun k3 E H => ∃ (x21 : Int) (x22 : List Int) (x23 : List Int), E = [(2, .d (.pv (colD p0) 0)), (7, .vec 0 0), (8, .vec 1 0), (10, iV x10), (11, .vec 2 0), (12, iV x16), (13, iV (x18.getD x16.toNat 0)), (14, iV x21)] ∧ H = [.vec 0 (intsD r3), .vec 0 (intsD x22), .vec 0 (intsD x23)] ∧ spec_SidesOf_l3 p0 r3 x16 x18 k3 x21 x22 x23 = some os37) k _ _ (Weak_keep 0 hm [2, 7, 8, 10, 11, 12, 13, 14] [0, 1, 2] _ _ rfl rfl rfl) ⟨_, _, _, rfl, rfl, h⟩ ?_
                    clear h
                    rintro k3 E H ⟨x21, x22, x23, rfl, rfl, h⟩
                    cases k3 with
                    | zero => cases (show (none : Option (Sum (List Int × List Int) (Sum (List Int) (Sum (List Int) (List Int × Int))))) = some _ from h)
                    | succ k3 =>
                      rw [spec_SidesOf_l3] at h
                      refine ACode_seq ?_
                      refine ACode_seq (ACode_region ?_)
                      refine AOps_q 62 _ rfl rfl rfl (QOp_move _ _ rfl rfl) ?_
                      refine AOps_q 63 _ rfl rfl rfl (QOp_fieldAddr_pv _ _ _ _ _ 0 _ _ rfl Try.underlying26 rfl _ Try.sizeOf2 rfl rfl) ?_
                      refine AOps_q 64 _ rfl rfl rfl (QOp_load_pv _ _ _ _ _ rfl Try.isAgg2 rfl rfl) ?_
                      refine AOps_q 65 _ rfl rfl rfl (QOp_lss _ _ _ _ _ _ _ rfl rfl rfl) ?_
                      refine AOps_nil ?_
                      refine ACode_cond _ rfl (fun hb24 => ?_) (fun hb24 => ?_)
                      · have h := iteT hb24 h
                        refine ACode_skip ?_
                        obtain ⟨os36, hss36, hks36⟩ := bindO h
                        clear h
                        refine ACode_seqJ (fun E' H' => ∃ s36 : List Int × List Int, os36 = .inl s36 ∧ Weak 104 G E' H' [(2, .d (.pv (colD p0) 0)), (7, .vec 0 0), (8, .vec 1 0), (10, iV x10), (11, .vec 2 0), (12, iV x16), (13, iV (x18.getD x16.toNat 0)), (14, iV x21)] [.vec 0 (intsD r3), .vec 0 (intsD s36.1), .vec 0 (intsD s36.2)]) ?_ ?_
                        · have h := hss36
                          clear hss36
                          refine ACode_block ?_
                          refine ACode_seq ?_
                          refine ACode_seq (ACode_region ?_)
                          refine AOps_q 68 _ rfl rfl rfl (QOp_move _ _ rfl rfl) ?_
                          refine AOps_q 69 _ rfl rfl rfl (QOp_move _ _ rfl rfl) ?_
                          obtain ⟨hc25, h⟩ := guardO h
                          refine AOps_q 70 _ rfl rfl rfl (QOp_indexAddr_vec _ _ _ _ _ _ _ _ _ rfl Try.underlying29 Try.sizeOf2 hc25.1 (by rw [intsD_length]; exact hc25.2) rfl rfl rfl) ?_
                          refine AOps_q 71 _ rfl rfl rfl (QOp_load_eptr _ _ _ _ _ _ _ rfl Try.isAgg2 rfl rfl (intsD_get _ _ 0 (by omega))) ?_
                          refine AOps_q 72 _ rfl rfl rfl (QOp_move _ _ rfl rfl) ?_
                          refine AOps_q 73 _ rfl rfl rfl (QOp_conv _ _ _ _ _ _ rfl rfl Try.underlying85 rfl) ?_
                          obtain ⟨hc26, h⟩ := guardO h
                          refine AOps_q 74 _ rfl rfl rfl (QOp_shr _ _ _ _ _ _ _ _ hc26 rfl rfl rfl) ?_
                          refine AOps_q 75 _ rfl rfl rfl (QOp_and _ _ _ _ _ _ _ rfl rfl rfl) ?_
                          refine AOps_q 76 _ rfl rfl rfl (QOp_eql _ _ _ _ _ _ _ rfl rfl rfl) ?_
                          refine AOps_nil ?_
                          refine ACode_cond _ rfl (fun hb27 => ?_) (fun hb27 => ?_)
                          · have h := iteT hb27 h
                            refine ACode_exit ?_
                            cases h
                            exact ⟨_, rfl, Weak_keep 0 hm [2, 7, 8, 10, 11, 12, 13, 14] [0, 1, 2] _ _ rfl rfl rfl⟩
                          · have h := iteF hb27 h
                            refine ACode_skip ?_
                            refine ACode_seq ?_
                            refine ACode_seq (ACode_quiet mixed (by kernel_rfl) ?_)
                            refine AQ_q 77 _ rfl rfl rfl (QOp_move _ _ rfl rfl) ?_
                            refine AQ_q 78 _ rfl rfl rfl (QOp_move _ _ rfl rfl) ?_
                            obtain ⟨hc28, h⟩ := guardO h
                            refine AQ_q 79 _ rfl rfl rfl (QOp_indexAddr_vec _ _ _ _ _ _ _ _ _ rfl Try.underlying29 Try.sizeOf2 hc28.1 (by rw [intsD_length]; exact hc28.2) rfl rfl rfl) ?_
                            refine AQ_q 80 _ rfl rfl rfl (QOp_load_eptr _ _ _ _ _ _ _ rfl Try.isAgg2 rfl rfl (intsD_get _ _ 0 (by omega))) ?_
                            refine AQ_q 81 _ rfl rfl rfl (QOp_move _ _ rfl rfl) ?_
                            refine AQ_q 82 _ rfl rfl rfl (QOp_move _ _ rfl rfl) ?_
                            obtain ⟨hc29, h⟩ := guardO h
                            refine AQ_q 83 _ rfl rfl rfl (QOp_indexAddr_vec _ _ _ _ _ _ _ _ _ rfl Try.underlying29 Try.sizeOf2 hc29.1 (by rw [intsD_length]; exact hc29.2) rfl rfl rfl) ?_
                            refine AQ_q 84 _ rfl rfl rfl (QOp_load_eptr _ _ _ _ _ _ _ rfl Try.isAgg2 rfl rfl (intsD_get _ _ 0 (by omega))) ?_
                            refine AQ_q 85 _ rfl rfl rfl (QOp_eql _ _ _ _ _ _ _ rfl rfl rfl) ?_
                            refine AQ_nil ?_
                            refine ACode_cond _ rfl (fun hb30 => ?_) (fun hb30 => ?_)
                            · have h := iteT hb30 h
                              refine ACode_seq (ACode_region ?_)
                              refine AOps_q 4 _ rfl rfl rfl (QOp_assign _ _ rfl rfl) ?_
                              refine AOps_q 5 _ rfl rfl rfl (QOp_assign _ _ rfl rfl) ?_
                              refine AOps_nil ?_
                              refine ACode_ret ?_
                              obtain ⟨rr, hz42, h2⟩ := bindO h
                              obtain rfl := Option.some.inj h2
                              obtain rfl := Option.some.inj (show some rr = some _ from hks36)
                              have h := hz42
                              obtain ⟨rr, hz41, h2⟩ := bindO h
                              obtain rfl := Option.some.inj h2
                              obtain rfl := Option.some.inj (show some rr = some _ from hks37)
                              have h := hz41
                              obtain ⟨rr, hz40, h2⟩ := bindO h
                              obtain rfl := Option.some.inj h2
                              obtain rfl := Option.some.inj (show some rr = some _ from hks38)
                              have h := hz40
                              cases h
                              have h := hks39
                              cases h
                              exact ⟨_, _, fun r a w h => ⟨r, h⟩, _, _, [], _, (.cons (ResV_tmp _ _ rfl) (.cons (ResV_tmp _ _ rfl) .nil)), rfl, rfl, rfl, rfl, rfl⟩
                            · have h := iteF hb30 h
                              refine ACode_skip ?_
                              refine ACode_seq (ACode_region ?_)
                              refine AOps_q 86 _ rfl rfl rfl (QOp_move _ _ rfl rfl) ?_
                              refine AOps_q 87 _ rfl rfl rfl (QOp_move _ _ rfl rfl) ?_
                              obtain ⟨hc31, h⟩ := guardO h
                              refine AOps_q 88 _ rfl rfl rfl (QOp_indexAddr_vec _ _ _ _ _ _ _ _ _ rfl Try.underlying29 Try.sizeOf2 hc31.1 (by rw [intsD_length]; exact hc31.2) rfl rfl rfl) ?_
                              refine AOps_q 89 _ rfl rfl rfl (QOp_load_eptr _ _ _ _ _ _ _ rfl Try.isAgg2 rfl rfl (intsD_get _ _ 0 (by omega))) ?_
                              refine AOps_q 90 _ rfl rfl rfl (QOp_lss _ _ _ _ _ _ _ rfl rfl rfl) ?_
                              refine AOps_nil ?_
                              refine ACode_cond _ rfl (fun hb32 => ?_) (fun hb32 => ?_)
                              · have h := iteT hb32 h
                                refine ACode_seq (ACode_region ?_)
                                refine AOps_q 91 _ rfl rfl rfl (QOp_move _ _ rfl rfl) ?_
                                refine AOps_q 92 _ rfl rfl rfl (QOp_move _ _ rfl rfl) ?_
                                refine AOps_q 93 _ rfl rfl rfl (QOp_move _ _ rfl rfl) ?_
                                refine AOps_q 94 _ rfl rfl rfl (QOp_move _ _ rfl rfl) ?_
                                obtain ⟨hc33, h⟩ := guardO h
                                refine AOps_q 95 _ rfl rfl rfl (QOp_indexAddr_vec _ _ _ _ _ _ _ _ _ rfl Try.underlying29 Try.sizeOf2 hc33.1 (by rw [intsD_length]; exact hc33.2) rfl rfl rfl) ?_
                                refine AOps_q 96 _ rfl rfl rfl (QOp_load_eptr _ _ _ _ _ _ _ rfl Try.isAgg2 rfl rfl (intsD_get _ _ 0 (by omega))) ?_
                                refine AOps_q 97 _ rfl rfl rfl (QOp_sub _ _ _ _ _ _ _ rfl rfl rfl) ?_
                                obtain ⟨hc34, h⟩ := guardO h
                                refine AOps_q 98 _ rfl rfl rfl (QOp_indexAddr_vec _ _ _ _ _ _ _ _ _ rfl Try.underlying29 Try.sizeOf2 hc34.1 (by rw [intsD_length]; exact hc34.2) rfl rfl rfl) ?_
                                refine AOps_store_eptr _ _ _ _ _ _ (intsD x22) _ rfl rfl rfl rfl rfl rfl rfl Try.sizeOf2 (by rw [intsD_length]; omega) ?_
                                rw [intsD_set]
                                refine AOps_nil ?_
                                refine (ACode_region ?_)
                                refine AOps_q 99 _ rfl rfl rfl (QOp_move _ _ rfl rfl) ?_
                                refine AOps_q 100 _ rfl rfl rfl (QOp_move _ _ rfl rfl) ?_
                                refine AOps_buildSlice 101 _ _ _ [_] (intsD ([x21])) _ rfl rfl rfl rfl rfl (by decide) Try.underlying29 Try.sizeOf2 (zero_of Try.typeInfo2 rfl) rfl rfl (intsD_one _) ?_
                                obtain ⟨hc35, h⟩ := guardO h
                                refine AOps_append 102 _ _ _ _ _ _ _ _ _ _ _ _ rfl rfl rfl rfl rfl rfl rfl Try.underlying29 Try.type2 rfl rfl rfl (by decide) rfl rfl rfl rfl (intsD_one _) (by rw [intsD_length, intsD_length]; exact hc35) ?_
                                rw [intsD_app]
                                refine AOps_q 11 _ rfl rfl rfl (QOp_assign _ _ rfl rfl) ?_
                                refine AOps_nil ?_
                                cases h
                                exact ⟨_, rfl, Weak_trans (Weak_keep 0 hm [2, 7, 8, 10, 11, 12, 13, 14] [0, 1, 2] _ _ rfl rfl rfl) (Weak_reset 0 hm hz [2, 7, 8, 10, 11, 12, 13, 14] _ _ rfl rfl)⟩
                              · have h := iteF hb32 h
                                refine ACode_skip ?_
                                cases h
                                exact ⟨_, rfl, Weak_keep 0 hm [2, 7, 8, 10, 11, 12, 13, 14] [0, 1, 2] _ _ rfl rfl rfl⟩
                        rintro E' H' ⟨s36, rfl, hw⟩
                        refine ACode_weak hw ?_
                        have h := hks36
                        refine (ACode_region ?_)
                        refine AOps_q 66 _ rfl rfl rfl (QOp_move _ _ rfl rfl) ?_
                        refine AOps_q 67 _ rfl rfl rfl (QOp_add _ _ _ _ _ _ _ rfl rfl rfl) ?_
                        refine AOps_q 14 _ rfl rfl rfl (QOp_assign _ _ rfl rfl) ?_
                        refine AOps_nil ?_
                        exact ⟨k3, _, _, Nat.lt_succ_self _, Weak_keep 0 hm [2, 7, 8, 10, 11, 12, 13, 14] [0, 1, 2] _ _ rfl rfl rfl, _, _, _, rfl, rfl, h⟩
                      · have h := iteF hb24 h
                        refine ACode_exit ?_
                        cases h
                        exact ⟨_, rfl, Weak_keep 0 hm [2, 7, 8, 10, 11, 12] [0, 1, 2] _ _ rfl rfl rfl⟩
                  rintro E' H' ⟨s37, rfl, hw⟩
                  refine ACode_weak hw ?_
                  have h := hks37
                  refine (ACode_region ?_)
                  refine AOps_q 56 _ rfl rfl rfl (QOp_move _ _ rfl rfl) ?_
                  refine AOps_q 57 _ rfl rfl rfl (QOp_add _ _ _ _ _ _ _ rfl rfl rfl) ?_
                  refine AOps_q 12 _ rfl rfl rfl (QOp_assign _ _ rfl rfl) ?_
                  refine AOps_nil ?_
                  exact ⟨k2, _, _, Nat.lt_succ_self _, Weak_keep 0 hm [2, 7, 8, 10, 11, 12] [0, 1, 2] _ _ rfl rfl rfl, _, _, _, rfl, rfl, h⟩
                · have h := iteF hb19 h
                  refine ACode_exit ?_
                  cases h
                  exact ⟨_, rfl, Weak_keep 0 hm [2, 7, 8, 10] [0, 1] _ _ rfl rfl rfl⟩
          rintro E' H' ⟨s38, rfl, hw⟩
          refine ACode_weak hw ?_
          have h := hks38
          refine (ACode_region ?_)
          refine AOps_q 40 _ rfl rfl rfl (QOp_move _ _ rfl rfl) ?_
          refine AOps_q 41 _ rfl rfl rfl (QOp_add _ _ _ _ _ _ _ rfl rfl rfl) ?_
          refine AOps_q 10 _ rfl rfl rfl (QOp_assign _ _ rfl rfl) ?_
          refine AOps_nil ?_
          exact ⟨k1, _, _, Nat.lt_succ_self _, Weak_keep 0 hm [2, 7, 8, 10] [0, 1] _ _ rfl rfl rfl, _, _, rfl, rfl, h⟩
        · have h := iteF hb12 h
          refine ACode_exit ?_
          cases h
          exact ⟨_, rfl, Weak_keep 0 hm [8] [1] _ _ rfl rfl rfl⟩
    rintro E' H' ⟨s39, rfl, hw⟩
    refine ACode_weak hw ?_
    have h := hks39
    refine ACode_seq (ACode_region ?_)
    refine AOps_q 103 _ rfl rfl rfl (QOp_move _ _ rfl rfl) ?_
    refine AOps_q 4 _ rfl rfl rfl (QOp_assign _ _ rfl rfl) ?_
    refine AOps_q 5 _ rfl rfl rfl (QOp_assign _ _ rfl rfl) ?_
    refine AOps_nil ?_
    refine ACode_ret ?_
    cases h
    exact ⟨_, _, fun r a w h => ⟨r, h⟩, _, _, [], _, (.cons (ResV_tmp _ _ rfl) (.cons (ResV_tmp _ _ rfl) .nil)), rfl, rfl, rfl, rfl, rfl⟩

-- loop.example/g01362/spec.l04With
def spec_l04With (k : Nat) (p0 : List UInt8) : Option (Col × Int) :=
  (spec_l01From k p0).bind fun r1 => (spec_l04Draw k r1).bind fun r2 => some (r2.1, r2.2.1)
set_option maxRecDepth 100000 in
theorem spec_l04With_ac (k : Nat) (p0 : List UInt8) (r : Col × Int) (h : spec_l04With k p0 = some r) : AC Try.prog 105 [.d (.sl none (bysD p0))] [] (fun res H' => res = [.d (.agg (colD r.1)), iV r.2] ∧ H' = []) := by
  refine AC_of_body true Try.func105 rfl Try.ntmps105 (rvs := [.cell 2 26, .tmp 3]) rfl rfl (fun G hG => ?_)
  have hm : G.H.length = 0 := by rw [hG]; rfl
  have hz : zeroG G.H = true := by rw [hG]; rfl
  unfold spec_l04With at h
  refine ACode_seq (ACode_region ?_)
  refine AOps_alloc 2 _ _ (colD Col.zero) (zero_of Try.typeInfo26 rfl) (by rfl) rfl rfl rfl rfl ?_
  refine AOps_q 3 _ rfl rfl rfl (QOp_assign _ _ rfl rfl) ?_
  refine AOps_nil ?_
  refine ACode_seq (ACode_region ?_)
  refine AOps_q 7 _ rfl rfl rfl (QOp_move _ _ rfl rfl) ?_
  obtain ⟨r1, hr1, h⟩ := bindO h
  refine AOps_call [] 8 _ _ _ _ _ _ _ _ _ _ rfl rfl rfl rfl rfl rfl rfl Try.call57 rfl (nodupB_sound _ rfl) rfl rfl rfl (spec_l01From_ac k p0 _ hr1) ?_
  rintro _ _ ⟨rfl, rfl⟩
  refine ⟨(allc (fun _ _ => trivial) (fun _ h => nomatch h)), (allc (trivial) (fun _ h => nomatch h)), AOps_as 8 (v' := .ptr 1 0) (H' := [.box (colD Col.zero), .box (srcD r1)]) rfl rfl ?_⟩
  obtain ⟨r2, hr2, h⟩ := bindO h
  refine AOps_call [1] 9 _ _ _ _ _ _ _ _ _ _ rfl rfl rfl rfl rfl rfl rfl Try.call99 rfl (nodupB_sound _ rfl) rfl rfl rfl (spec_l04Draw_ac k r1 _ hr2) ?_
  rintro _ _ ⟨rfl, rfl⟩
  refine ⟨(allc (fun _ _ => trivial) (fun _ h => nomatch h)), (allc (trivial) (allc (trivial) (fun _ h => nomatch h))), AOps_as 9 (v' := .tup [.d (.agg (colD r2.1)), iV r2.2.1]) (H' := [.box (colD Col.zero), .box (srcD r2.2.2)]) rfl rfl ?_⟩
  refine AOps_q 6 _ rfl rfl rfl (QOp_move _ _ rfl rfl) ?_
  refine AOps_q 10 _ rfl rfl rfl (QOp_extract _ _ _ _ rfl rfl rfl) ?_
  refine AOps_q 11 _ rfl rfl rfl (QOp_extract _ _ _ _ rfl rfl rfl) ?_
  refine AOps_alloc 4 _ _ (colD Col.zero) (zero_of Try.typeInfo26 rfl) (by rfl) rfl rfl rfl rfl ?_
  refine AOps_store _ _ _ _ _ _ (colD _) _ _ rfl rfl rfl rfl rfl rfl rfl (colD_one _) (by rw [colD_length]; exact Try.sizeOf26) (by rw [colD_length, colD_length]; decide) (colD_whole _ _) ?_
  refine AOps_q 5 _ rfl rfl rfl (QOp_assign _ _ rfl rfl) ?_
  refine AOps_nil ?_
  refine ACode_seq (ACode_region ?_)
  refine AOps_q 12 _ rfl rfl rfl (QOp_loadN_ptr _ _ _ _ _ _ _ rfl Try.isAgg26 Try.sizeOf26 rfl rfl (colD_all _) (colD_length _)) ?_
  refine AOps_q 13 _ rfl rfl rfl (QOp_move _ _ rfl rfl) ?_
  refine AOps_store _ _ _ _ _ _ (colD _) _ _ rfl rfl rfl rfl rfl rfl rfl (colD_one _) (by rw [colD_length]; exact Try.sizeOf26) (by rw [colD_length, colD_length]; decide) (colD_whole _ _) ?_
  refine AOps_q 3 _ rfl rfl rfl (QOp_assign _ _ rfl rfl) ?_
  refine AOps_nil ?_
  refine ACode_ret ?_
  cases h
  exact ⟨_, _, fun r a w h => ⟨r, h⟩, _, _, [], _, (.cons (ResV_agg _ _ _ _ _ _ Try.isAgg26 Try.sizeOf26 rfl rfl (colD_take _) (colD_length _)) (.cons (ResV_tmp _ _ rfl) .nil)), rfl, rfl, rfl, rfl, rfl⟩

-- loop.example/g01362/spec.DrawConnectedColours
def spec_DrawConnectedColours (k : Nat) (p0 : List UInt8) : Option (Col) :=
  (spec_l04With k p0).bind fun r1 => some r1.1
set_option maxRecDepth 100000 in
theorem spec_DrawConnectedColours_ac (k : Nat) (p0 : List UInt8) (r : Col) (h : spec_DrawConnectedColours k p0 = some r) : AC Try.prog 43 [.d (.sl none (bysD p0))] [] (fun res H' => res = [.d (.agg (colD r))] ∧ H' = []) := by
  refine AC_of_body true Try.func43 rfl Try.ntmps43 (rvs := [.cell 2 26]) rfl rfl (fun G hG => ?_)
  have hm : G.H.length = 0 := by rw [hG]; rfl
  have hz : zeroG G.H = true := by rw [hG]; rfl
  unfold spec_DrawConnectedColours at h
  refine ACode_seq (ACode_region ?_)
  refine AOps_alloc 2 _ _ (colD Col.zero) (zero_of Try.typeInfo26 rfl) (by rfl) rfl rfl rfl rfl ?_
  refine AOps_nil ?_
  refine ACode_seq (ACode_region ?_)
  refine AOps_q 6 _ rfl rfl rfl (QOp_move _ _ rfl rfl) ?_
  obtain ⟨r1, hr1, h⟩ := bindO h
  refine AOps_call [] 7 _ _ _ _ _ _ _ _ _ _ rfl rfl rfl rfl rfl rfl rfl Try.call105 rfl (nodupB_sound _ rfl) rfl rfl rfl (spec_l04With_ac k p0 _ hr1) ?_
  rintro _ _ ⟨rfl, rfl⟩
  refine ⟨(fun _ h => nomatch h), (allc (trivial) (allc (trivial) (fun _ h => nomatch h))), AOps_as 7 (v' := .tup [.d (.agg (colD r1.1)), iV r1.2]) (H' := [.box (colD Col.zero)]) rfl rfl ?_⟩
  refine AOps_q 5 _ rfl rfl rfl (QOp_move _ _ rfl rfl) ?_
  refine AOps_q 8 _ rfl rfl rfl (QOp_extract _ _ _ _ rfl rfl rfl) ?_
  refine AOps_q 9 _ rfl rfl rfl (QOp_extract _ _ _ _ rfl rfl rfl) ?_
  refine AOps_alloc 3 _ _ (colD Col.zero) (zero_of Try.typeInfo26 rfl) (by rfl) rfl rfl rfl rfl ?_
  refine AOps_store _ _ _ _ _ _ (colD _) _ _ rfl rfl rfl rfl rfl rfl rfl (colD_one _) (by rw [colD_length]; exact Try.sizeOf26) (by rw [colD_length, colD_length]; decide) (colD_whole _ _) ?_
  refine AOps_q 4 _ rfl rfl rfl (QOp_assign _ _ rfl rfl) ?_
  refine AOps_nil ?_
  refine ACode_seq (ACode_region ?_)
  refine AOps_q 10 _ rfl rfl rfl (QOp_loadN_ptr _ _ _ _ _ _ _ rfl Try.isAgg26 Try.sizeOf26 rfl rfl (colD_all _) (colD_length _)) ?_
  refine AOps_store _ _ _ _ _ _ (colD _) _ _ rfl rfl rfl rfl rfl rfl rfl (colD_one _) (by rw [colD_length]; exact Try.sizeOf26) (by rw [colD_length, colD_length]; decide) (colD_whole _ _) ?_
  refine AOps_nil ?_
  refine ACode_ret ?_
  cases h
  exact ⟨_, _, fun r a w h => ⟨r, h⟩, _, _, [], _, (.cons (ResV_agg _ _ _ _ _ _ Try.isAgg26 Try.sizeOf26 rfl rfl (colD_take _) (colD_length _)) .nil), rfl, rfl, rfl, rfl, rfl⟩

-- loop.example/g01362/impl.always
def impl_always : Bool :=
  true
set_option maxRecDepth 100000 in
theorem impl_always_ac : AC Try.prog 69 [] [] (fun res H' => res = [bV (impl_always)] ∧ H' = []) := by
  refine AC_of_body true Try.func69 rfl Try.ntmps69 (rvs := [.tmp 0]) rfl rfl (fun G hG => ?_)
  have hm : G.H.length = 0 := by rw [hG]; rfl
  have hz : zeroG G.H = true := by rw [hG]; rfl
  obtain ⟨r, h⟩ : ∃ r, impl_always = r := ⟨_, rfl⟩
  rw [h]
  unfold impl_always at h
  refine ACode_seq (ACode_region ?_)
  refine AOps_q 0 _ rfl rfl rfl (QOp_assign _ _ rfl rfl) ?_
  refine AOps_nil ?_
  refine ACode_seq (ACode_region ?_)
  refine AOps_q 0 _ rfl rfl rfl (QOp_assign _ _ rfl rfl) ?_
  refine AOps_nil ?_
  refine ACode_ret ?_
  cases h
  exact ⟨_, _, fun r a w h => ⟨r, h⟩, _, _, [], _, (.cons (ResV_tmp _ _ rfl) .nil), rfl, rfl, rfl, rfl, rfl⟩

-- loop.example/g01362/impl.ConnectedColours
def impl_ConnectedColours_l0 (k : Nat) (p0 : Col) : Nat → Int → (List Int) → Option (List Int)
  | 0, _, _ => none
  | k0 + 1, x3, x4 => (if decide (x3 < p0.k) then ((impl_Colouring_walk k p0 x3).bind fun r6 => (if decide ((r6.1.length : Int) = 1) then (if x4.length + ([x3]).length ≤ 1099511627776 then some (x4 ++ ([x3])) else none) else some x4) : Option (List Int)).bind fun s9 => impl_ConnectedColours_l0 k p0 k0 (w64 (x3 + 1)) s9 else some x4)
def impl_ConnectedColours (k : Nat) (p0 : Col) : Option (Option (List Int) × Int) :=
  (impl_Colouring_code k p0 (some (impl_always))).bind fun r1 => (if !decide (r1 = 0) then some (none, r1) else (impl_ConnectedColours_l0 k p0 k 0 ([] : List Int) : Option (List Int)).bind fun s10 => some (some s10, 0))
set_option maxRecDepth 100000 in
theorem impl_ConnectedColours_ac (k : Nat) (p0 : Col) (r : Option (List Int) × Int) (h : impl_ConnectedColours k p0 = some r) : AC Try.prog 44 [.d (.agg (colD p0))] [] (fun res H' => res = [ownA 0 (r.1.map intsD), iV r.2] ∧ H' = [] ++ ownH (r.1.map intsD)) := by
  refine AC_of_body false Try.func44 rfl Try.ntmps44 (rvs := [.tmp 2, .tmp 3]) rfl rfl (fun G hG => ?_)
  have hm : G.H.length = 0 := by rw [hG]; rfl
  have hz : zeroG G.H = true := by rw [hG]; rfl
  unfold impl_ConnectedColours at h
  refine ACode_seq (ACode_region ?_)
  refine AOps_boxI 1 _ _ (.agg (colD p0)) (colD p0) rfl (colD_one _) rfl rfl rfl rfl rfl ?_
  refine AOps_q 2 _ rfl rfl rfl (QOp_assign _ _ rfl rfl) ?_
  refine AOps_q 3 _ rfl rfl rfl (QOp_assign _ _ rfl rfl) ?_
  refine AOps_nil ?_
  refine ACode_seq ?_
  refine ACode_seq (ACode_region ?_)
  obtain ⟨r1, hr1, h⟩ := bindO h
  refine AOps_call [] 9 _ _ _ _ _ _ _ _ _ _ rfl rfl rfl rfl rfl rfl rfl Try.call68 rfl (nodupB_sound _ rfl) rfl rfl rfl (impl_Colouring_code_ac k p0 (some (impl_always)) 69 ([]) Try.call69 (fun r h => by cases h; exact impl_always_ac) _ hr1) ?_
  rintro _ _ ⟨rfl, rfl⟩
  refine ⟨(fun _ h => nomatch h), (allc (trivial) (fun _ h => nomatch h)), AOps_as 9 (v' := iV r1) (H' := []) rfl rfl ?_⟩
  refine AOps_q 4 _ rfl rfl rfl (QOp_assign _ _ rfl rfl) ?_
  refine AOps_nil ?_
  refine ACode_seq (ACode_region ?_)
  refine AOps_q 10 _ rfl rfl rfl (QOp_move _ _ rfl rfl) ?_
  refine AOps_q 11 _ rfl rfl rfl (QOp_neq _ _ _ _ _ _ _ rfl rfl rfl) ?_
  refine AOps_nil ?_
  refine ACode_cond _ rfl (fun hb2 => ?_) (fun hb2 => ?_)
  · have h := iteT hb2 h
    refine ACode_seq (ACode_region ?_)
    refine AOps_q 12 _ rfl rfl rfl (QOp_move _ _ rfl rfl) ?_
    refine AOps_q 2 _ rfl rfl rfl (QOp_assign _ _ rfl rfl) ?_
    refine AOps_q 3 _ rfl rfl rfl (QOp_assign _ _ rfl rfl) ?_
    refine AOps_nil ?_
    refine ACode_ret ?_
    cases h
    exact ⟨_, _, fun r a w h => ⟨r, h⟩, _, _, [], _, (.cons (ResV_tmp _ _ rfl) (.cons (ResV_tmp _ _ rfl) .nil)), rfl, rfl, rfl, rfl, rfl⟩
  · have h := iteF hb2 h
    refine ACode_skip ?_
    refine ACode_seq (ACode_region ?_)
    refine AOps_buildSlice 13 _ _ _ [] (intsD ([] : List Int)) _ rfl rfl rfl rfl rfl (by decide) Try.underlying29 Try.sizeOf2 (zero_of Try.typeInfo2 rfl) rfl rfl (intsD_one _) ?_
    refine AOps_q 5 _ rfl rfl rfl (QOp_assign _ _ rfl rfl) ?_
    refine AOps_nil ?_
    obtain ⟨s10, hss10, hks10⟩ := bindO h
    clear h
    refine ACode_seqJ (fun E' H' => Weak 33 G E' H' [(5, .vec 0 0)] [.vec 0 (intsD s10)]) ?_ ?_
    · have h := hss10
      clear hss10
      refine ACode_seq (ACode_region ?_)
      refine AOps_q 14 _ rfl rfl rfl (QOp_fieldAddr_pv _ _ _ _ _ 1 _ _ rfl Try.underlying26 rfl _ Try.sizeOf2 rfl rfl) ?_
      refine AOps_q 15 _ rfl rfl rfl (QOp_load_pv _ _ _ _ _ rfl Try.isAgg2 rfl rfl) ?_
      refine AOps_q 16 _ rfl rfl rfl (QOp_move _ _ rfl rfl) ?_
      refine AOps_nil ?_
      refine ACode_block ?_
      refine ACode_loopW (fun k0 E H => ∃ (x3 : Int) (x4 : List Int), E = [(1, .d (.pv (colD p0) 0)), (5, .vec 0 0), (15, iV p0.k), (16, iV x3)] ∧ H = [.vec 0 (intsD x4)] ∧ impl_ConnectedColours_l0 k p0 k0 x3 x4 = some s10) k _ _ (Weak_keep 0 hm [1, 5, 15, 16] [0] _ _ rfl rfl rfl) ⟨_, _, rfl, rfl, h⟩ ?_
      clear h
      rintro k0 E H ⟨x3, x4, rfl, rfl, h⟩
      cases k0 with
      | zero => cases (show (none : Option (List Int)) = some _ from h)
      | succ k0 =>
        rw [impl_ConnectedColours_l0] at h
        refine ACode_seq (ACode_region ?_)
        refine AOps_q 17 _ rfl rfl rfl (QOp_lss _ _ _ _ _ _ _ rfl rfl rfl) ?_
        refine AOps_nil ?_
        refine ACode_seq ?_
        refine ACode_cond _ rfl (fun hb5 => ?_) (fun hb5 => ?_)
        · have h := iteT hb5 h
          refine ACode_skip ?_
          obtain ⟨s9, hss9, hks9⟩ := bindO h
          clear h
          refine ACode_seqJ (fun E' H' => Weak 33 G E' H' [(1, .d (.pv (colD p0) 0)), (5, .vec 0 0), (15, iV p0.k), (16, iV x3)] [.vec 0 (intsD s9)]) ?_ ?_
          · have h := hss9
            clear hss9
            refine ACode_block ?_
            refine ACode_seq (ACode_region ?_)
            refine AOps_q 18 _ rfl rfl rfl (QOp_move _ _ rfl rfl) ?_
            refine AOps_q 6 _ rfl rfl rfl (QOp_assign _ _ rfl rfl) ?_
            refine AOps_nil ?_
            refine ACode_seq (ACode_region ?_)
            refine AOps_q 20 _ rfl rfl rfl (QOp_move _ _ rfl rfl) ?_
            obtain ⟨r6, hr6, h⟩ := bindO h
            refine AOps_call [] 21 _ _ _ _ _ _ _ _ _ _ rfl rfl rfl rfl rfl rfl rfl Try.call100 rfl (nodupB_sound _ rfl) rfl rfl rfl (impl_Colouring_walk_ac k p0 x3 _ hr6) ?_
            rintro _ _ ⟨rfl, rfl⟩
            refine ⟨(allc (fun _ _ => trivial) (allc (fun _ _ => trivial) (fun _ h => nomatch h))), (allc (trivial) (allc (trivial) (fun _ h => nomatch h))), AOps_as 21 (v' := .tup [.vec 1 0, .vec 2 0]) (H' := [.vec 0 (intsD x4), .vec 0 (rowsD r6.1), .vec 0 (intsD r6.2)]) rfl rfl ?_⟩
            refine AOps_q 19 _ rfl rfl rfl (QOp_move _ _ rfl rfl) ?_
            refine AOps_q 22 _ rfl rfl rfl (QOp_extract _ _ _ _ rfl rfl rfl) ?_
            refine AOps_q 23 _ rfl rfl rfl (QOp_extract _ _ _ _ rfl rfl rfl) ?_
            refine AOps_q 7 _ rfl rfl rfl (QOp_assign _ _ rfl rfl) ?_
            refine AOps_q 8 _ rfl rfl rfl (QOp_assign _ _ rfl rfl) ?_
            refine AOps_nil ?_
            refine ACode_seq (ACode_region ?_)
            refine AOps_q 24 _ rfl rfl rfl (QOp_move _ _ rfl rfl) ?_
            refine AOps_q 25 _ rfl rfl rfl (QOp_len_vec _ _ _ _ _ _ _ _ (rowsD_length _) rfl rfl rfl rfl Try.underlying46 rfl rfl) ?_
            refine AOps_q 26 _ rfl rfl rfl (QOp_eql _ _ _ _ _ _ _ rfl rfl rfl) ?_
            refine AOps_nil ?_
            refine ACode_cond _ rfl (fun hb7 => ?_) (fun hb7 => ?_)
            · have h := iteT hb7 h
              refine (ACode_region ?_)
              refine AOps_q 27 _ rfl rfl rfl (QOp_move _ _ rfl rfl) ?_
              refine AOps_q 28 _ rfl rfl rfl (QOp_move _ _ rfl rfl) ?_
              refine AOps_buildSlice 29 _ _ _ [_] (intsD ([x3])) _ rfl rfl rfl rfl rfl (by decide) Try.underlying29 Try.sizeOf2 (zero_of Try.typeInfo2 rfl) rfl rfl (intsD_one _) ?_
              obtain ⟨hc8, h⟩ := guardO h
              refine AOps_append 30 _ _ _ _ _ _ _ _ _ _ _ _ rfl rfl rfl rfl rfl rfl rfl Try.underlying29 Try.type2 rfl rfl rfl (by decide) rfl rfl rfl rfl (intsD_one _) (by rw [intsD_length, intsD_length]; exact hc8) ?_
              rw [intsD_app]
              refine AOps_q 5 _ rfl rfl rfl (QOp_assign _ _ rfl rfl) ?_
              refine AOps_nil ?_
              cases h
              exact Weak_trans (Weak_keep 0 hm [1, 5, 15, 16] [0] _ _ rfl rfl rfl) (Weak_reset 0 hm hz [1, 5, 15, 16] _ _ rfl rfl)
            · have h := iteF hb7 h
              refine ACode_skip ?_
              cases h
              exact Weak_keep 0 hm [1, 5, 15, 16] [0] _ _ rfl rfl rfl
          intro E' H' hw
          refine ACode_weak hw ?_
          have h := hks9
          refine (ACode_region ?_)
          refine AOps_q 31 _ rfl rfl rfl (QOp_add _ _ _ _ _ _ _ rfl rfl rfl) ?_
          refine AOps_q 16 _ rfl rfl rfl (QOp_move _ _ rfl rfl) ?_
          refine AOps_nil ?_
          exact ⟨k0, _, _, Nat.lt_succ_self _, Weak_keep 0 hm [1, 5, 15, 16] [0] _ _ rfl rfl rfl, _, _, rfl, rfl, h⟩
        · have h := iteF hb5 h
          refine ACode_exit ?_
          cases h
          exact Weak_keep 0 hm [5] [0] _ _ rfl rfl rfl
    intro E' H' hw
    refine ACode_weak hw ?_
    have h := hks10
    refine ACode_seq (ACode_region ?_)
    refine AOps_q 32 _ rfl rfl rfl (QOp_move _ _ rfl rfl) ?_
    refine AOps_q 2 _ rfl rfl rfl (QOp_assign _ _ rfl rfl) ?_
    refine AOps_q 3 _ rfl rfl rfl (QOp_assign _ _ rfl rfl) ?_
    refine AOps_nil ?_
    refine ACode_ret ?_
    cases h
    exact ⟨_, _, Weak_reset 0 hm hz [2, 3] _ _ rfl rfl, _, _, [0], _, (.cons (ResV_tmp _ _ rfl) (.cons (ResV_tmp _ _ rfl) .nil)), rfl, rfl, rfl, rfl, rfl⟩

-- loop.example/g01362/spec.ConnectedColours
def spec_ConnectedColours_l0 (k : Nat) (p0 : Col) : Nat → Int → (List Int) → Option (List Int)
  | 0, _, _ => none
  | k0 + 1, x3, x4 => (if decide (x3 < p0.k) then ((if 0 ≤ IntKind.u64.wrap p0.p then (spec_l02Rows k p0 x3).bind fun r7 => (spec_l04Component k r7 0).bind fun r8 => (if decide (r8 = w64 ((bShl .i64 1 (IntKind.u64.wrap p0.p)) - 1)) then (if x4.length + ([x3]).length ≤ 1099511627776 then some (x4 ++ ([x3])) else none) else some x4) else none) : Option (List Int)).bind fun s11 => spec_ConnectedColours_l0 k p0 k0 (w64 (x3 + 1)) s11 else some x4)
def spec_ConnectedColours (k : Nat) (p0 : Col) : Option (List Int × Int) :=
  (spec_l01Is k p0).bind fun r1 => (if !r1 then some ([], 1) else (spec_ConnectedColours_l0 k p0 k 0 ([] : List Int) : Option (List Int)).bind fun s12 => some (s12, 0))
set_option maxRecDepth 100000 in
theorem spec_ConnectedColours_ac (k : Nat) (p0 : Col) (r : List Int × Int) (h : spec_ConnectedColours k p0 = some r) : AC Try.prog 45 [.d (.agg (colD p0))] [] (fun res H' => res = [.d (.sl none (intsD r.1)), iV r.2] ∧ H' = []) := by
  refine AC_of_body true Try.func45 rfl Try.ntmps45 (rvs := [.tmp 2, .tmp 3]) rfl rfl (fun G hG => ?_)
  have hm : G.H.length = 0 := by rw [hG]; rfl
  have hz : zeroG G.H = true := by rw [hG]; rfl
  unfold spec_ConnectedColours at h
  refine ACode_seq (ACode_region ?_)
  refine AOps_boxI 1 _ _ (.agg (colD p0)) (colD p0) rfl (colD_one _) rfl rfl rfl rfl rfl ?_
  refine AOps_q 2 _ rfl rfl rfl (QOp_assign _ _ rfl rfl) ?_
  refine AOps_q 3 _ rfl rfl rfl (QOp_assign _ _ rfl rfl) ?_
  refine AOps_nil ?_
  refine ACode_seq ?_
  refine ACode_seq (ACode_region ?_)
  refine AOps_q 6 _ rfl rfl rfl (QOp_loadN_pv _ _ _ _ _ _ rfl Try.isAgg26 Try.sizeOf26 rfl (colD_all _) (colD_length _)) ?_
  obtain ⟨r1, hr1, h⟩ := bindO h
  refine AOps_call [] 7 _ _ _ _ _ _ _ _ _ _ rfl rfl rfl rfl rfl rfl rfl Try.call72 rfl (nodupB_sound _ rfl) rfl rfl rfl (spec_l01Is_ac k p0 _ hr1) ?_
  rintro _ _ ⟨rfl, rfl⟩
  refine ⟨(fun _ h => nomatch h), (allc (trivial) (fun _ h => nomatch h)), AOps_as 7 (v' := bV r1) (H' := []) rfl rfl ?_⟩
  refine AOps_q 8 _ rfl rfl rfl (QOp_not _ _ _ rfl rfl) ?_
  refine AOps_nil ?_
  refine ACode_cond _ rfl (fun hb2 => ?_) (fun hb2 => ?_)
  · have h := iteT hb2 h
    refine ACode_seq (ACode_region ?_)
    refine AOps_q 2 _ rfl rfl rfl (QOp_assign _ _ rfl rfl) ?_
    refine AOps_q 3 _ rfl rfl rfl (QOp_assign _ _ rfl rfl) ?_
    refine AOps_nil ?_
    refine ACode_ret ?_
    cases h
    exact ⟨_, _, fun r a w h => ⟨r, h⟩, _, _, [], _, (.cons (ResV_tmp _ _ rfl) (.cons (ResV_tmp _ _ rfl) .nil)), rfl, rfl, rfl, rfl, rfl⟩
  · have h := iteF hb2 h
    refine ACode_skip ?_
    refine ACode_seq (ACode_region ?_)
    refine AOps_buildSlice 9 _ _ _ [] (intsD ([] : List Int)) _ rfl rfl rfl rfl rfl (by decide) Try.underlying29 Try.sizeOf2 (zero_of Try.typeInfo2 rfl) rfl rfl (intsD_one _) ?_
    refine AOps_q 4 _ rfl rfl rfl (QOp_assign _ _ rfl rfl) ?_
    refine AOps_nil ?_
    obtain ⟨s12, hss12, hks12⟩ := bindO h
    clear h
    refine ACode_seqJ (fun E' H' => Weak 31 G E' H' [(4, .vec 0 0)] [.vec 0 (intsD s12)]) ?_ ?_
    · have h := hss12
      clear hss12
      refine ACode_seq (ACode_region ?_)
      refine AOps_q 5 _ rfl rfl rfl (QOp_assign _ _ rfl rfl) ?_
      refine AOps_nil ?_
      refine ACode_block ?_
      refine ACode_loopW (fun k0 E H => ∃ (x3 : Int) (x4 : List Int), E = [(1, .d (.pv (colD p0) 0)), (4, .vec 0 0), (5, iV x3)] ∧ H = [.vec 0 (intsD x4)] ∧ spec_ConnectedColours_l0 k p0 k0 x3 x4 = some s12) k _ _ (Weak_keep 0 hm [1, 4, 5] [0] _ _ rfl rfl rfl) ⟨_, _, rfl, rfl, h⟩ ?_
      clear h
      rintro k0 E H ⟨x3, x4, rfl, rfl, h⟩
      cases k0 with
      | zero => cases (show (none : Option (List Int)) = some _ from h)
      | succ k0 =>
        rw [spec_ConnectedColours_l0] at h
        refine ACode_seq ?_
        refine ACode_seq (ACode_region ?_)
        refine AOps_q 10 _ rfl rfl rfl (QOp_move _ _ rfl rfl) ?_
        refine AOps_q 11 _ rfl rfl rfl (QOp_fieldAddr_pv _ _ _ _ _ 1 _ _ rfl Try.underlying26 rfl _ Try.sizeOf2 rfl rfl) ?_
        refine AOps_q 12 _ rfl rfl rfl (QOp_load_pv _ _ _ _ _ rfl Try.isAgg2 rfl rfl) ?_
        refine AOps_q 13 _ rfl rfl rfl (QOp_lss _ _ _ _ _ _ _ rfl rfl rfl) ?_
        refine AOps_nil ?_
        refine ACode_cond _ rfl (fun hb5 => ?_) (fun hb5 => ?_)
        · have h := iteT hb5 h
          refine ACode_skip ?_
          obtain ⟨s11, hss11, hks11⟩ := bindO h
          clear h
          refine ACode_seqJ (fun E' H' => Weak 31 G E' H' [(1, .d (.pv (colD p0) 0)), (4, .vec 0 0), (5, iV x3)] [.vec 0 (intsD s11)]) ?_ ?_
          · have h := hss11
            clear hss11
            refine ACode_block ?_
            obtain ⟨hc6, h⟩ := guardO h
            obtain ⟨r7, hr7, h⟩ := bindO h
            obtain ⟨r8, hr8, h⟩ := bindO h
            refine ACode_seqJ (fun E' H' => Weak 31 G E' H' [(1, .d (.pv (colD p0) 0)), (4, .vec 0 0), (5, iV x3), (25, bV (decide (r8 = w64 ((bShl .i64 1 (IntKind.u64.wrap p0.p)) - 1))))] [.vec 0 (intsD x4)]) ?_ ?_
            · refine ACode_any mixed ?_
              refine AAny_q 0 16 _ rfl (by kernel_rfl) rfl rfl rfl (QOp_loadN_pv _ _ _ _ _ _ rfl Try.isAgg26 Try.sizeOf26 rfl (colD_all _) (colD_length _)) ?_
              refine AAny_q 1 17 _ rfl (by kernel_rfl) rfl rfl rfl (QOp_move _ _ rfl rfl) ?_
              refine AAny_q 4 20 _ rfl (by kernel_rfl) rfl rfl rfl (QOp_fieldAddr_pv _ _ _ _ _ 0 _ _ rfl Try.underlying26 rfl _ Try.sizeOf2 rfl rfl) ?_
              refine AAny_q 5 21 _ rfl (by kernel_rfl) rfl rfl rfl (QOp_load_pv _ _ _ _ _ rfl Try.isAgg2 rfl rfl) ?_
              refine AAny_q 6 22 _ rfl (by kernel_rfl) rfl rfl rfl (QOp_conv _ _ _ _ _ _ rfl rfl Try.underlying85 rfl) ?_
              refine AAny_q 7 23 _ rfl (by kernel_rfl) rfl rfl rfl (QOp_shl _ _ _ _ _ _ _ _ hc6 rfl rfl rfl) ?_
              refine AAny_q 8 24 _ rfl (by kernel_rfl) rfl rfl rfl (QOp_sub _ _ _ _ _ _ _ rfl rfl rfl) ?_
              refine AAny_all [2] (by kernel_rfl) rfl (allc ?_ (fun _ h => nomatch h))
              · refine AStep_callN 2 18 _ _ _ _ _ _ _ _ _ rfl rfl rfl rfl rfl rfl rfl rfl Try.call101 rfl rfl rfl (spec_l02Rows_ac k p0 x3 _ hr7) ?_
                rintro _ _ ⟨rfl, rfl⟩
                refine ⟨(allc (fun _ _ => trivial) (fun _ h => nomatch h)), (allc (trivial) (fun _ h => nomatch h)), AAny_as 18 (v' := .vec 1 0) (H' := [.vec 0 (intsD x4), .vec 0 (intsD r7)]) rfl rfl ?_⟩
                refine AAny_call 3 19 _ _ _ _ _ _ _ _ _ rfl (by kernel_rfl) rfl rfl rfl rfl rfl rfl rfl Try.call102 rfl rfl rfl (spec_l04Component_ac k r7 0 _ hr8) ?_
                refine AAny_q 9 25 _ rfl (by kernel_rfl) rfl rfl rfl (QOp_eql _ _ _ _ _ _ _ rfl rfl rfl) ?_
                refine AAny_done (by kernel_rfl) ?_
                exact Weak_keep 0 hm [1, 4, 5, 25] [0] _ _ rfl rfl rfl
            intro E' H' hw
            refine ACode_weak hw ?_
            refine ACode_cond _ rfl (fun hb9 => ?_) (fun hb9 => ?_)
            · have h := iteT hb9 h
              refine (ACode_region ?_)
              refine AOps_q 26 _ rfl rfl rfl (QOp_move _ _ rfl rfl) ?_
              refine AOps_q 27 _ rfl rfl rfl (QOp_move _ _ rfl rfl) ?_
              refine AOps_buildSlice 28 _ _ _ [_] (intsD ([x3])) _ rfl rfl rfl rfl rfl (by decide) Try.underlying29 Try.sizeOf2 (zero_of Try.typeInfo2 rfl) rfl rfl (intsD_one _) ?_
              obtain ⟨hc10, h⟩ := guardO h
              refine AOps_append 29 _ _ _ _ _ _ _ _ _ _ _ _ rfl rfl rfl rfl rfl rfl rfl Try.underlying29 Try.type2 rfl rfl rfl (by decide) rfl rfl rfl rfl (intsD_one _) (by rw [intsD_length, intsD_length]; exact hc10) ?_
              rw [intsD_app]
              refine AOps_q 4 _ rfl rfl rfl (QOp_assign _ _ rfl rfl) ?_
              refine AOps_nil ?_
              cases h
              exact Weak_trans (Weak_keep 0 hm [1, 4, 5] [0] _ _ rfl rfl rfl) (Weak_reset 0 hm hz [1, 4, 5] _ _ rfl rfl)
            · have h := iteF hb9 h
              refine ACode_skip ?_
              cases h
              exact Weak_keep 0 hm [1, 4, 5] [0] _ _ rfl rfl rfl
          intro E' H' hw
          refine ACode_weak hw ?_
          have h := hks11
          refine (ACode_region ?_)
          refine AOps_q 14 _ rfl rfl rfl (QOp_move _ _ rfl rfl) ?_
          refine AOps_q 15 _ rfl rfl rfl (QOp_add _ _ _ _ _ _ _ rfl rfl rfl) ?_
          refine AOps_q 5 _ rfl rfl rfl (QOp_assign _ _ rfl rfl) ?_
          refine AOps_nil ?_
          exact ⟨k0, _, _, Nat.lt_succ_self _, Weak_keep 0 hm [1, 4, 5] [0] _ _ rfl rfl rfl, _, _, rfl, rfl, h⟩
        · have h := iteF hb5 h
          refine ACode_exit ?_
          cases h
          exact Weak_keep 0 hm [4] [0] _ _ rfl rfl rfl
    intro E' H' hw
    refine ACode_weak hw ?_
    have h := hks12
    refine ACode_seq (ACode_region ?_)
    refine AOps_q 30 _ rfl rfl rfl (QOp_move _ _ rfl rfl) ?_
    refine AOps_q 2 _ rfl rfl rfl (QOp_assign _ _ rfl rfl) ?_
    refine AOps_q 3 _ rfl rfl rfl (QOp_assign _ _ rfl rfl) ?_
    refine AOps_nil ?_
    refine ACode_ret ?_
    cases h
    exact ⟨_, _, fun r a w h => ⟨r, h⟩, _, _, [], _, (.cons (ResV_tmp _ _ rfl) (.cons (ResV_tmp _ _ rfl) .nil)), rfl, rfl, rfl, rfl, rfl⟩

-- (*loop.example/g01362/impl.Colouring).has
def impl_Colouring_has (p0 : Col) (p1 : Int) : Bool :=
  (impl_in p1 0 (w64 (p0.p - 1)))
set_option maxRecDepth 100000 in
theorem impl_Colouring_has_ac (p0 : Col) (p1 : Int) : AC Try.prog 116 [.d (.pv (colD p0) 0), iV p1] [] (fun res H' => res = [bV (impl_Colouring_has p0 p1)] ∧ H' = []) := by
  refine AC_of_body true Try.func116 rfl Try.ntmps116 (rvs := [.tmp 4]) rfl rfl (fun G hG => ?_)
  have hm : G.H.length = 0 := by rw [hG]; rfl
  have hz : zeroG G.H = true := by rw [hG]; rfl
  obtain ⟨r, h⟩ : ∃ r, impl_Colouring_has p0 p1 = r := ⟨_, rfl⟩
  rw [h]
  unfold impl_Colouring_has at h
  refine ACode_seq (ACode_region ?_)
  refine AOps_q 4 _ rfl rfl rfl (QOp_assign _ _ rfl rfl) ?_
  refine AOps_nil ?_
  refine ACode_seq (ACode_region ?_)
  refine AOps_q 5 _ rfl rfl rfl (QOp_move _ _ rfl rfl) ?_
  refine AOps_q 6 _ rfl rfl rfl (QOp_move _ _ rfl rfl) ?_
  refine AOps_q 7 _ rfl rfl rfl (QOp_nilCheck_pv _ _ _ rfl rfl) ?_
  refine AOps_q 8 _ rfl rfl rfl (QOp_fieldAddr_pv _ _ _ _ _ 0 _ _ rfl Try.underlying26 rfl _ Try.sizeOf2 rfl rfl) ?_
  refine AOps_q 9 _ rfl rfl rfl (QOp_load_pv _ _ _ _ _ rfl Try.isAgg2 rfl rfl) ?_
  refine AOps_q 10 _ rfl rfl rfl (QOp_sub _ _ _ _ _ _ _ rfl rfl rfl) ?_
  refine AOps_call [] 11 _ _ _ _ _ _ _ _ _ _ rfl rfl rfl rfl rfl rfl rfl Try.call62 rfl (nodupB_sound _ rfl) rfl rfl rfl (impl_in_ac p1 0 (w64 (p0.p - 1))) ?_
  rintro _ _ ⟨rfl, rfl⟩
  refine ⟨(fun _ h => nomatch h), (allc (trivial) (fun _ h => nomatch h)), AOps_as 11 (v' := bV (impl_in p1 0 (w64 (p0.p - 1)))) (H' := []) rfl rfl ?_⟩
  refine AOps_q 4 _ rfl rfl rfl (QOp_assign _ _ rfl rfl) ?_
  refine AOps_nil ?_
  refine ACode_ret ?_
  cases h
  exact ⟨_, _, fun r a w h => ⟨r, h⟩, _, _, [], _, (.cons (ResV_tmp _ _ rfl) .nil), rfl, rfl, rfl, rfl, rfl⟩

-- (*loop.example/g01362/impl.Colouring).hasTwo
def impl_Colouring_hasTwo (p0 : Col) (p1 : Int) (p2 : Int) : Bool :=
  letO (if (impl_Colouring_has p0 p1) then (if (impl_Colouring_has p0 p2) then !decide (p1 = p2) else false) else false) fun (s5 : Bool) => s5
set_option maxRecDepth 100000 in
theorem impl_Colouring_hasTwo_ac (p0 : Col) (p1 : Int) (p2 : Int) : AC Try.prog 75 [.d (.pv (colD p0) 0), iV p1, iV p2] [] (fun res H' => res = [bV (impl_Colouring_hasTwo p0 p1 p2)] ∧ H' = []) := by
  refine AC_of_body true Try.func75 rfl Try.ntmps75 (rvs := [.tmp 6]) rfl rfl (fun G hG => ?_)
  have hm : G.H.length = 0 := by rw [hG]; rfl
  have hz : zeroG G.H = true := by rw [hG]; rfl
  obtain ⟨r, h⟩ : ∃ r, impl_Colouring_hasTwo p0 p1 p2 = r := ⟨_, rfl⟩
  rw [h]
  unfold impl_Colouring_hasTwo at h
  refine ACode_seq (ACode_region ?_)
  refine AOps_q 6 _ rfl rfl rfl (QOp_assign _ _ rfl rfl) ?_
  refine AOps_nil ?_
  obtain ⟨s5, hss5, hks5⟩ := letS h
  clear h
  refine ACode_seqJ (fun E' H' => Weak 20 G E' H' [(6, bV s5)] []) ?_ ?_
  · have h := hss5
    clear hss5
    refine (ACode_region ?_)
    refine AOps_q 7 _ rfl rfl rfl (QOp_move _ _ rfl rfl) ?_
    refine AOps_q 8 _ rfl rfl rfl (QOp_move _ _ rfl rfl) ?_
    refine AOps_call [] 9 _ _ _ _ _ _ _ _ _ _ rfl rfl rfl rfl rfl rfl rfl Try.call116 rfl (nodupB_sound _ rfl) rfl rfl rfl (impl_Colouring_has_ac p0 p1) ?_
    rintro _ _ ⟨rfl, rfl⟩
    refine ⟨(fun _ h => nomatch h), (allc (trivial) (fun _ h => nomatch h)), AOps_as 9 (v' := bV (impl_Colouring_has p0 p1)) (H' := []) rfl rfl ?_⟩
    refine AOps_q 10 _ rfl rfl rfl (QOp_move _ _ rfl rfl) ?_
    refine AOps_case 10 _ rfl (fun hb2 => ?_) (fun hb2 => ?_)
    · have h := iteT hb2 h
      refine AOps_q 11 _ rfl rfl rfl (QOp_move _ _ rfl rfl) ?_
      refine AOps_q 12 _ rfl rfl rfl (QOp_move _ _ rfl rfl) ?_
      refine AOps_call [] 13 _ _ _ _ _ _ _ _ _ _ rfl rfl rfl rfl rfl rfl rfl Try.call116 rfl (nodupB_sound _ rfl) rfl rfl rfl (impl_Colouring_has_ac p0 p2) ?_
      rintro _ _ ⟨rfl, rfl⟩
      refine ⟨(fun _ h => nomatch h), (allc (trivial) (fun _ h => nomatch h)), AOps_as 13 (v' := bV (impl_Colouring_has p0 p2)) (H' := []) rfl rfl ?_⟩
      refine AOps_q 14 _ rfl rfl rfl (QOp_pick_t _ _ _ _ rfl rfl rfl) ?_
      refine AOps_q 15 _ rfl rfl rfl (QOp_move _ _ rfl rfl) ?_
      refine AOps_case 15 _ rfl (fun hb4 => ?_) (fun hb4 => ?_)
      · have h := iteT hb4 h
        refine AOps_q 16 _ rfl rfl rfl (QOp_move _ _ rfl rfl) ?_
        refine AOps_q 17 _ rfl rfl rfl (QOp_move _ _ rfl rfl) ?_
        refine AOps_q 18 _ rfl rfl rfl (QOp_neq _ _ _ _ _ _ _ rfl rfl rfl) ?_
        refine AOps_q 19 _ rfl rfl rfl (QOp_pick_t _ _ _ _ rfl rfl rfl) ?_
        refine AOps_q 6 _ rfl rfl rfl (QOp_assign _ _ rfl rfl) ?_
        refine AOps_nil ?_
        cases h
        exact Weak_keep 0 hm [6] [] _ _ rfl rfl rfl
      · have h := iteF hb4 h
        refine AOps_skip 16 rfl rfl rfl ?_
        refine AOps_skip 17 rfl rfl rfl ?_
        refine AOps_skip 18 rfl rfl rfl ?_
        refine AOps_q 19 _ rfl rfl rfl (QOp_pick_f _ _ _ _ rfl rfl rfl) ?_
        refine AOps_q 6 _ rfl rfl rfl (QOp_assign _ _ rfl rfl) ?_
        refine AOps_nil ?_
        cases h
        exact Weak_keep 0 hm [6] [] _ _ rfl rfl rfl
    · have h := iteF hb2 h
      refine AOps_skip 11 rfl rfl rfl ?_
      refine AOps_skip 12 rfl rfl rfl ?_
      refine AOps_skip 13 rfl rfl rfl ?_
      refine AOps_q 14 _ rfl rfl rfl (QOp_pick_f _ _ _ _ rfl rfl rfl) ?_
      refine AOps_q 15 _ rfl rfl rfl (QOp_move _ _ rfl rfl) ?_
      refine AOps_skip 16 rfl rfl rfl ?_
      refine AOps_skip 17 rfl rfl rfl ?_
      refine AOps_skip 18 rfl rfl rfl ?_
      refine AOps_q 19 _ rfl rfl rfl (QOp_pick_f _ _ _ _ rfl rfl rfl) ?_
      refine AOps_q 6 _ rfl rfl rfl (QOp_assign _ _ rfl rfl) ?_
      refine AOps_nil ?_
      cases h
      exact Weak_keep 0 hm [6] [] _ _ rfl rfl rfl
  intro E' H' hw
  refine ACode_weak hw ?_
  have h := hks5
  refine ACode_ret ?_
  cases h
  exact ⟨_, _, fun r a w h => ⟨r, h⟩, _, _, [], _, (.cons (ResV_tmp _ _ rfl) .nil), rfl, rfl, rfl, rfl, rfl⟩

-- loop.example/g01362/impl.ColourOf$1
def impl_ColourOf_c1 (p0 : Col) (p1 : Int) (p2 : Int) : Bool :=
  (impl_Colouring_hasTwo p0 p1 p2)
set_option maxRecDepth 100000 in
theorem impl_ColourOf_c1_ac (p0 : Col) (p1 : Int) (p2 : Int) : AC Try.prog 74 [.d (.pv (colD p0) 0), .d (.pv ([iD p1]) 0), .d (.pv ([iD p2]) 0)] [] (fun res H' => res = [bV (impl_ColourOf_c1 p0 p1 p2)] ∧ H' = []) := by
  refine AC_of_body true Try.func74 rfl Try.ntmps74 (rvs := [.tmp 3]) rfl rfl (fun G hG => ?_)
  have hm : G.H.length = 0 := by rw [hG]; rfl
  have hz : zeroG G.H = true := by rw [hG]; rfl
  obtain ⟨r, h⟩ : ∃ r, impl_ColourOf_c1 p0 p1 p2 = r := ⟨_, rfl⟩
  rw [h]
  unfold impl_ColourOf_c1 at h
  refine ACode_seq (ACode_region ?_)
  refine AOps_q 3 _ rfl rfl rfl (QOp_assign _ _ rfl rfl) ?_
  refine AOps_nil ?_
  refine ACode_seq (ACode_region ?_)
  refine AOps_q 4 _ rfl rfl rfl (QOp_load_pv _ _ _ _ _ rfl Try.isAgg2 rfl rfl) ?_
  refine AOps_q 5 _ rfl rfl rfl (QOp_load_pv _ _ _ _ _ rfl Try.isAgg2 rfl rfl) ?_
  refine AOps_call [] 6 _ _ _ _ _ _ _ _ _ _ rfl rfl rfl rfl rfl rfl rfl Try.call75 rfl (nodupB_sound _ rfl) rfl rfl rfl (impl_Colouring_hasTwo_ac p0 p1 p2) ?_
  rintro _ _ ⟨rfl, rfl⟩
  refine ⟨(fun _ h => nomatch h), (allc (trivial) (fun _ h => nomatch h)), AOps_as 6 (v' := bV (impl_Colouring_hasTwo p0 p1 p2)) (H' := []) rfl rfl ?_⟩
  refine AOps_q 3 _ rfl rfl rfl (QOp_assign _ _ rfl rfl) ?_
  refine AOps_nil ?_
  refine ACode_ret ?_
  cases h
  exact ⟨_, _, fun r a w h => ⟨r, h⟩, _, _, [], _, (.cons (ResV_tmp _ _ rfl) .nil), rfl, rfl, rfl, rfl, rfl⟩

-- loop.example/g01362/impl.ColourOf
def impl_ColourOf (k : Nat) (p0 : Col) (p1 : Int) (p2 : Int) : Option (Int × Int) :=
  (impl_Colouring_code k p0 (some (impl_ColourOf_c1 p0 p1 p2))).bind fun r1 => (if !decide (r1 = 0) then some (0, r1) else (impl_Colouring_at p0 p1 p2).bind fun r3 => some (r3, 0))
set_option maxRecDepth 100000 in
theorem impl_ColourOf_ac (k : Nat) (p0 : Col) (p1 : Int) (p2 : Int) (r : Int × Int) (h : impl_ColourOf k p0 p1 p2 = some r) : AC Try.prog 22 [.d (.agg (colD p0)), iV p1, iV p2] [] (fun res H' => res = [iV r.1, iV r.2] ∧ H' = []) := by
  refine AC_of_body true Try.func22 rfl Try.ntmps22 (rvs := [.tmp 6, .tmp 7]) rfl rfl (fun G hG => ?_)
  have hm : G.H.length = 0 := by rw [hG]; rfl
  have hz : zeroG G.H = true := by rw [hG]; rfl
  unfold impl_ColourOf at h
  refine ACode_seq (ACode_region ?_)
  refine AOps_boxI 3 _ _ (.agg (colD p0)) (colD p0) rfl (colD_one _) rfl rfl rfl rfl rfl ?_
  refine AOps_boxI 4 _ _ (iD p1) _ rfl (fun c hc => by cases hc with | head => rfl | tail _ h => cases h) rfl rfl rfl rfl rfl ?_
  refine AOps_boxI 5 _ _ (iD p2) _ rfl (fun c hc => by cases hc with | head => rfl | tail _ h => cases h) rfl rfl rfl rfl rfl ?_
  refine AOps_q 6 _ rfl rfl rfl (QOp_assign _ _ rfl rfl) ?_
  refine AOps_q 7 _ rfl rfl rfl (QOp_assign _ _ rfl rfl) ?_
  refine AOps_nil ?_
  refine ACode_seq ?_
  refine ACode_seq (ACode_region ?_)
  refine AOps_q 9 _ rfl rfl rfl (QOp_makeFuncD _ _ _ _ rfl rfl rfl) ?_
  obtain ⟨r1, hr1, h⟩ := bindO h
  refine AOps_call [] 10 _ _ _ _ _ _ _ _ _ _ rfl rfl rfl rfl rfl rfl rfl Try.call68 rfl (nodupB_sound _ rfl) rfl rfl rfl (impl_Colouring_code_ac k p0 (some (impl_ColourOf_c1 p0 p1 p2)) 74 ([.pv (colD p0) 0, .pv ([iD p1]) 0, .pv ([iD p2]) 0]) Try.call74 (fun r h => by cases h; exact impl_ColourOf_c1_ac p0 p1 p2) _ hr1) ?_
  rintro _ _ ⟨rfl, rfl⟩
  refine ⟨(fun _ h => nomatch h), (allc (trivial) (fun _ h => nomatch h)), AOps_as 10 (v' := iV r1) (H' := []) rfl rfl ?_⟩
  refine AOps_q 8 _ rfl rfl rfl (QOp_assign _ _ rfl rfl) ?_
  refine AOps_nil ?_
  refine ACode_seq (ACode_region ?_)
  refine AOps_q 11 _ rfl rfl rfl (QOp_move _ _ rfl rfl) ?_
  refine AOps_q 12 _ rfl rfl rfl (QOp_neq _ _ _ _ _ _ _ rfl rfl rfl) ?_
  refine AOps_nil ?_
  refine ACode_cond _ rfl (fun hb2 => ?_) (fun hb2 => ?_)
  · have h := iteT hb2 h
    refine ACode_seq (ACode_region ?_)
    refine AOps_q 13 _ rfl rfl rfl (QOp_move _ _ rfl rfl) ?_
    refine AOps_q 6 _ rfl rfl rfl (QOp_assign _ _ rfl rfl) ?_
    refine AOps_q 7 _ rfl rfl rfl (QOp_assign _ _ rfl rfl) ?_
    refine AOps_nil ?_
    refine ACode_ret ?_
    cases h
    exact ⟨_, _, fun r a w h => ⟨r, h⟩, _, _, [], _, (.cons (ResV_tmp _ _ rfl) (.cons (ResV_tmp _ _ rfl) .nil)), rfl, rfl, rfl, rfl, rfl⟩
  · have h := iteF hb2 h
    refine ACode_skip ?_
    refine ACode_seq (ACode_region ?_)
    refine AOps_q 14 _ rfl rfl rfl (QOp_load_pv _ _ _ _ _ rfl Try.isAgg2 rfl rfl) ?_
    refine AOps_q 15 _ rfl rfl rfl (QOp_load_pv _ _ _ _ _ rfl Try.isAgg2 rfl rfl) ?_
    obtain ⟨r3, hr3, h⟩ := bindO h
    refine AOps_call [] 16 _ _ _ _ _ _ _ _ _ _ rfl rfl rfl rfl rfl rfl rfl Try.call51 rfl (nodupB_sound _ rfl) rfl rfl rfl (impl_Colouring_at_ac p0 p1 p2 _ hr3) ?_
    rintro _ _ ⟨rfl, rfl⟩
    refine ⟨(fun _ h => nomatch h), (allc (trivial) (fun _ h => nomatch h)), AOps_as 16 (v' := iV r3) (H' := []) rfl rfl ?_⟩
    refine AOps_q 6 _ rfl rfl rfl (QOp_assign _ _ rfl rfl) ?_
    refine AOps_q 7 _ rfl rfl rfl (QOp_assign _ _ rfl rfl) ?_
    refine AOps_nil ?_
    refine ACode_ret ?_
    cases h
    exact ⟨_, _, fun r a w h => ⟨r, h⟩, _, _, [], _, (.cons (ResV_tmp _ _ rfl) (.cons (ResV_tmp _ _ rfl) .nil)), rfl, rfl, rfl, rfl, rfl⟩

-- loop.example/g01362/laws.hasInt
def laws_hasInt_l0 (p0 : List Int) (p1 : Int) : Nat → Int → Option (Sum (Unit) (Bool))
  | 0, _ => none
  | k0 + 1, x1 => (if decide (x1 < (p0.length : Int)) then (if 0 ≤ x1 ∧ x1 < (p0.length : Int) then (if decide ((p0.getD x1.toNat 0) = p1) then some (.inr true) else laws_hasInt_l0 p0 p1 k0 (w64 (x1 + 1))) else none) else some (.inl ()))
def laws_hasInt (k : Nat) (p0 : List Int) (p1 : Int) : Option (Bool) :=
  (laws_hasInt_l0 p0 p1 k 0 : Option (Sum (Unit) (Bool))).bind fun os5 => (match os5 with | .inl s5 => some false | .inr rr => some rr)
set_option maxRecDepth 100000 in
theorem laws_hasInt_ac (k : Nat) (p0 : List Int) (p1 : Int) (r : Bool) (h : laws_hasInt k p0 p1 = some r) : AC Try.prog 46 [.d (.sl none (intsD p0)), iV p1] [] (fun res H' => res = [bV r] ∧ H' = []) := by
  refine AC_of_body true Try.func46 rfl Try.ntmps46 (rvs := [.tmp 4]) rfl rfl (fun G hG => ?_)
  have hm : G.H.length = 0 := by rw [hG]; rfl
  have hz : zeroG G.H = true := by rw [hG]; rfl
  unfold laws_hasInt at h
  refine ACode_seq (ACode_region ?_)
  refine AOps_q 4 _ rfl rfl rfl (QOp_assign _ _ rfl rfl) ?_
  refine AOps_nil ?_
  obtain ⟨os5, hss5, hks5⟩ := bindO h
  clear h
  refine ACode_seqJ (fun E' H' => ∃ s5 : Unit, os5 = .inl s5 ∧ Weak 18 G E' H' [] []) ?_ ?_
  · have h := hss5
    clear hss5
    refine ACode_seq (ACode_region ?_)
    refine AOps_q 5 _ rfl rfl rfl (QOp_assign _ _ rfl rfl) ?_
    refine AOps_nil ?_
    refine ACode_block ?_
    refine ACode_loopW (fun k0 E H => ∃ (x1 : Int), E = [(0, .d (.sl none (intsD p0))), (1, iV p1), (5, iV x1)] ∧ H = [] ∧ laws_hasInt_l0 p0 p1 k0 x1 = some os5) k _ _ (Weak_keep 0 hm [0, 1, 5] [] _ _ rfl rfl rfl) ⟨_, rfl, rfl, h⟩ ?_
    clear h
    rintro k0 E H ⟨x1, rfl, rfl, h⟩
    cases k0 with
    | zero => cases (show (none : Option (Sum (Unit) (Bool))) = some _ from h)
    | succ k0 =>
      rw [laws_hasInt_l0] at h
      refine ACode_seq ?_
      refine ACode_seq (ACode_region ?_)
      refine AOps_q 6 _ rfl rfl rfl (QOp_move _ _ rfl rfl) ?_
      refine AOps_q 7 _ rfl rfl rfl (QOp_move _ _ rfl rfl) ?_
      refine AOps_q 8 _ rfl rfl rfl (QOp_len_sl _ _ _ _ _ _ _ (intsD_length _) rfl rfl rfl rfl Try.underlying29 rfl) ?_
      refine AOps_q 9 _ rfl rfl rfl (QOp_lss _ _ _ _ _ _ _ rfl rfl rfl) ?_
      refine AOps_nil ?_
      refine ACode_cond _ rfl (fun hb2 => ?_) (fun hb2 => ?_)
      · have h := iteT hb2 h
        refine ACode_skip ?_
        refine ACode_seq ?_
        refine ACode_block ?_
        refine ACode_seq (ACode_region ?_)
        refine AOps_q 12 _ rfl rfl rfl (QOp_move _ _ rfl rfl) ?_
        refine AOps_q 13 _ rfl rfl rfl (QOp_move _ _ rfl rfl) ?_
        obtain ⟨hc3, h⟩ := guardO h
        refine AOps_q 14 _ rfl rfl rfl (QOp_indexAddr_sl _ _ _ _ _ _ _ _ rfl Try.underlying29 Try.sizeOf2 hc3.1 (by rw [intsD_length]; exact hc3.2) rfl rfl) ?_
        refine AOps_q 15 _ rfl rfl rfl (QOp_load_pv _ _ _ _ _ rfl Try.isAgg2 rfl (intsD_get _ _ 0 (by omega))) ?_
        refine AOps_q 16 _ rfl rfl rfl (QOp_move _ _ rfl rfl) ?_
        refine AOps_q 17 _ rfl rfl rfl (QOp_eql _ _ _ _ _ _ _ rfl rfl rfl) ?_
        refine AOps_nil ?_
        refine ACode_cond _ rfl (fun hb4 => ?_) (fun hb4 => ?_)
        · have h := iteT hb4 h
          refine ACode_seq (ACode_region ?_)
          refine AOps_q 4 _ rfl rfl rfl (QOp_assign _ _ rfl rfl) ?_
          refine AOps_nil ?_
          refine ACode_ret ?_
          cases h
          have h := hks5
          cases h
          exact ⟨_, _, fun r a w h => ⟨r, h⟩, _, _, [], _, (.cons (ResV_tmp _ _ rfl) .nil), rfl, rfl, rfl, rfl, rfl⟩
        · have h := iteF hb4 h
          refine ACode_skip ?_
          refine (ACode_region ?_)
          refine AOps_q 10 _ rfl rfl rfl (QOp_move _ _ rfl rfl) ?_
          refine AOps_q 11 _ rfl rfl rfl (QOp_add _ _ _ _ _ _ _ rfl rfl rfl) ?_
          refine AOps_q 5 _ rfl rfl rfl (QOp_assign _ _ rfl rfl) ?_
          refine AOps_nil ?_
          exact ⟨k0, _, _, Nat.lt_succ_self _, Weak_keep 0 hm [0, 1, 5] [] _ _ rfl rfl rfl, _, rfl, rfl, h⟩
      · have h := iteF hb2 h
        refine ACode_exit ?_
        cases h
        exact ⟨_, rfl, Weak_keep 0 hm [] [] _ _ rfl rfl rfl⟩
  rintro E' H' ⟨s5, rfl, hw⟩
  refine ACode_weak hw ?_
  have h := hks5
  refine ACode_seq (ACode_region ?_)
  refine AOps_q 4 _ rfl rfl rfl (QOp_assign _ _ rfl rfl) ?_
  refine AOps_nil ?_
  refine ACode_ret ?_
  cases h
  exact ⟨_, _, fun r a w h => ⟨r, h⟩, _, _, [], _, (.cons (ResV_tmp _ _ rfl) .nil), rfl, rfl, rfl, rfl, rfl⟩

-- loop.example/g01362/laws.FnParts
def laws_FnParts_l1 (k : Nat) (r11 : Col × Int) (r12 : Option (List Int) × Int) (x33 : Int) : Nat → Int → Option (Sum (Unit) (Sum (Unit) (Bool)))
  | 0, _ => none
  | k1 + 1, x35 => (if decide (x35 < x33) then ((impl_ColourOf k r11.1 x35 x33).bind fun r37 => ((if !decide (r37.2 = 0) then some true else (if decide (r37.1 = r11.2) then (if 0 ≤ x33 ∧ x33 < ((r12.1.getD []).length : Int) then (if 0 ≤ x35 ∧ x35 < ((r12.1.getD []).length : Int) then some (decide (((r12.1.getD []).getD x33.toNat 0) = ((r12.1.getD []).getD x35.toNat 0))) else none) else none) else some false)) : Option (Bool)).bind fun s42 => (if s42 then ((some (.inr false)).bind fun rr => some (.inr rr)).bind fun rr => some (.inr rr) else some (.inl ())) : Option (Sum (Unit) (Sum (Unit) (Sum (Unit) (Bool))))).bind fun os44 => (match os44 with | .inl s44 => laws_FnParts_l1 k r11 r12 x33 k1 (w64 (x35 + 1)) | .inr rr => some rr) else some (.inl ()))
def laws_FnParts_l0 (k : Nat) (r11 : Col × Int) (r12 : Option (List Int) × Int) : Nat → Int → Option (Sum (Unit) (Bool))
  | 0, _ => none
  | k0 + 1, x33 => (if decide (x33 < r11.1.p) then (laws_FnParts_l1 k r11 r12 x33 k 0 : Option (Sum (Unit) (Sum (Unit) (Bool)))).bind fun os45 => (match os45 with | .inl s45 => laws_FnParts_l0 k r11 r12 k0 (w64 (x33 + 1)) | .inr rr => some rr) else some (.inl ()))
def laws_FnParts_l2 (r4 : Option (List (List Int)) × Int) : Nat → Int → Int → Option (Int)
  | 0, _, _ => none
  | k2 + 1, x49, x50 => (if decide (x50 < ((r4.1.getD []).length : Int)) then (if 0 ≤ x50 ∧ x50 < ((r4.1.getD []).length : Int) then laws_FnParts_l2 r4 k2 (w64 (x49 + (((r4.1.getD []).getD x50.toNat []).length : Int))) (w64 (x50 + 1)) else none) else some x49)
def laws_FnParts (k : Nat) (p0 : List UInt8) : Option (Bool) :=
  (if (laws_big p0) then some true else (spec_DrawComponentsOf k p0).bind fun r3 => (impl_ComponentsOf k r3.1 r3.2).bind fun r4 => ((spec_ComponentsOf k r3.1 r3.2).bind fun r5 => ((if !decide (r4.2 = r5.2) then some true else (laws_rows9 k (r4.1.getD []) r5.1).bind fun r7 => some (!r7)) : Option (Bool)).bind fun s8 => (if s8 then some (.inr false) else some (.inl ())) : Option (Sum (Unit) (Bool))).bind fun os10 => (match os10 with | .inl s10 => (spec_DrawSidesOf k p0).bind fun r11 => (impl_SidesOf k r11.1 r11.2).bind fun r12 => ((spec_SidesOf k r11.1 r11.2).bind fun r13 => ((if !decide (r12.2 = r13.2) then some true else (laws_likeInts k (r12.1.getD []) r13.1).bind fun r15 => some (!r15)) : Option (Bool)).bind fun s16 => (if s16 then some (.inr false) else some (.inl ())) : Option (Sum (Unit) (Bool))).bind fun os18 => (match os18 with | .inl s18 => (spec_DrawConnectedColours k p0).bind fun r19 => (impl_ConnectedColours k r19).bind fun r20 => ((spec_ConnectedColours k r19).bind fun r21 => ((if !decide (r20.2 = r21.2) then some true else (laws_likeInts k (r20.1.getD []) r21.1).bind fun r23 => some (!r23)) : Option (Bool)).bind fun s24 => (if s24 then some (.inr false) else some (.inl ())) : Option (Sum (Unit) (Bool))).bind fun os26 => (match os26 with | .inl s26 => (letO (if decide (r20.2 = 0) then (if decide (r19.k ≤ 2) then decide (((r20.1.getD []).length : Int) = 0) else false) else false) fun (s29 : Bool) => (if s29 then some (.inr false) else some (.inl ())) : Option (Sum (Unit) (Bool))).bind fun os31 => (match os31 with | .inl s31 => ((if decide (r12.2 = 0) then laws_FnParts_l0 k r11 r12 k 0 else some (.inl ())) : Option (Sum (Unit) (Bool))).bind fun os46 => (match os46 with | .inl s46 => (if !decide (r4.2 = 0) then some (decide (((r4.1.getD []).length : Int) = 0)) else (impl_ConnectedColours k r3.1).bind fun r48 => (laws_FnParts_l2 r4 k 0 0 : Option (Int)).bind fun s53 => ((if decide (s53 = r3.1.p) then (if decide (r48.2 = 0) then (laws_hasInt k (r48.1.getD []) r3.2).bind fun r56 => some (r56 == decide (((r4.1.getD []).length : Int) = 1)) else some false) else some false) : Option (Bool)).bind fun s57 => some s57) | .inr rr => some rr) | .inr rr => some rr) | .inr rr => some rr) | .inr rr => some rr) | .inr rr => some rr))
set_option maxRecDepth 100000 in
theorem laws_FnParts_ac (k : Nat) (p0 : List UInt8) (r : Bool) (h : laws_FnParts k p0 = some r) : AC Try.prog 5 [.d (.sl none (bysD p0))] [] (fun res H' => res = [bV r] ∧ H' = []) := by
  refine AC_of_body true Try.func5 rfl Try.ntmps5 (rvs := [.tmp 2]) rfl rfl (fun G hG => ?_)
  have hm : G.H.length = 0 := by rw [hG]; rfl
  have hz : zeroG G.H = true := by rw [hG]; rfl
  unfold laws_FnParts at h
  refine ACode_seq (ACode_region ?_)
  refine AOps_q 2 _ rfl rfl rfl (QOp_assign _ _ rfl rfl) ?_
  refine AOps_nil ?_
  refine ACode_seq ?_
  refine ACode_seq (ACode_region ?_)
  refine AOps_q 28 _ rfl rfl rfl (QOp_move _ _ rfl rfl) ?_
  refine AOps_call [] 29 _ _ _ _ _ _ _ _ _ _ rfl rfl rfl rfl rfl rfl rfl Try.call6 rfl (nodupB_sound _ rfl) rfl rfl rfl (laws_big_ac p0) ?_
  rintro _ _ ⟨rfl, rfl⟩
  refine ⟨(fun _ h => nomatch h), (allc (trivial) (fun _ h => nomatch h)), AOps_as 29 (v' := bV (laws_big p0)) (H' := []) rfl rfl ?_⟩
  refine AOps_nil ?_
  refine ACode_cond _ rfl (fun hb2 => ?_) (fun hb2 => ?_)
  · have h := iteT hb2 h
    refine ACode_seq (ACode_region ?_)
    refine AOps_q 2 _ rfl rfl rfl (QOp_assign _ _ rfl rfl) ?_
    refine AOps_nil ?_
    refine ACode_ret ?_
    cases h
    exact ⟨_, _, fun r a w h => ⟨r, h⟩, _, _, [], _, (.cons (ResV_tmp _ _ rfl) .nil), rfl, rfl, rfl, rfl, rfl⟩
  · have h := iteF hb2 h
    refine ACode_skip ?_
    refine ACode_seq (ACode_region ?_)
    refine AOps_q 31 _ rfl rfl rfl (QOp_move _ _ rfl rfl) ?_
    obtain ⟨r3, hr3, h⟩ := bindO h
    refine AOps_call [] 32 _ _ _ _ _ _ _ _ _ _ rfl rfl rfl rfl rfl rfl rfl Try.call36 rfl (nodupB_sound _ rfl) rfl rfl rfl (spec_DrawComponentsOf_ac k p0 _ hr3) ?_
    rintro _ _ ⟨rfl, rfl⟩
    refine ⟨(fun _ h => nomatch h), (allc (trivial) (allc (trivial) (fun _ h => nomatch h))), AOps_as 32 (v' := .tup [.d (.agg (colD r3.1)), iV r3.2]) (H' := []) rfl rfl ?_⟩
    refine AOps_q 30 _ rfl rfl rfl (QOp_move _ _ rfl rfl) ?_
    refine AOps_q 33 _ rfl rfl rfl (QOp_extract _ _ _ _ rfl rfl rfl) ?_
    refine AOps_q 34 _ rfl rfl rfl (QOp_extract _ _ _ _ rfl rfl rfl) ?_
    refine AOps_alloc 3 _ _ (colD Col.zero) (zero_of Try.typeInfo26 rfl) (by rfl) rfl rfl rfl rfl ?_
    refine AOps_store _ _ _ _ _ _ (colD _) _ _ rfl rfl rfl rfl rfl rfl rfl (colD_one _) (by rw [colD_length]; exact Try.sizeOf26) (by rw [colD_length, colD_length]; decide) (colD_whole _ _) ?_
    refine AOps_q 4 _ rfl rfl rfl (QOp_assign _ _ rfl rfl) ?_
    refine AOps_nil ?_
    refine ACode_seq (ACode_region ?_)
    refine AOps_q 36 _ rfl rfl rfl (QOp_loadN_ptr _ _ _ _ _ _ _ rfl Try.isAgg26 Try.sizeOf26 rfl rfl (colD_all _) (colD_length _)) ?_
    refine AOps_q 37 _ rfl rfl rfl (QOp_move _ _ rfl rfl) ?_
    obtain ⟨r4, hr4, h⟩ := bindO h
    refine AOps_call [] 38 _ _ _ _ _ _ _ _ _ _ rfl rfl rfl rfl rfl rfl rfl Try.call37 rfl (nodupB_sound _ rfl) rfl rfl rfl (AC_frz rfl (frz_cons frz_nil) (impl_ComponentsOf_ac k r3.1 r3.2 _ hr4)) ?_
    rintro _ _ ⟨rfl, rfl⟩
    refine ⟨(fun _ h => nomatch h), (allc (trivial) (allc (trivial) (fun _ h => nomatch h))), AOps_as 38 (v' := .tup [.d (.sl none (rowsD (r4.1.getD []))), iV r4.2]) (H' := [.box (colD r3.1)]) rfl rfl ?_⟩
    refine AOps_q 35 _ rfl rfl rfl (QOp_move _ _ rfl rfl) ?_
    refine AOps_q 39 _ rfl rfl rfl (QOp_extract _ _ _ _ rfl rfl rfl) ?_
    refine AOps_q 40 _ rfl rfl rfl (QOp_extract _ _ _ _ rfl rfl rfl) ?_
    refine AOps_q 5 _ rfl rfl rfl (QOp_assign _ _ rfl rfl) ?_
    refine AOps_q 6 _ rfl rfl rfl (QOp_assign _ _ rfl rfl) ?_
    refine AOps_nil ?_
    obtain ⟨os10, hss10, hks10⟩ := bindO h
    clear h
    refine ACode_seqJ (fun E' H' => ∃ s10 : Unit, os10 = .inl s10 ∧ Weak 193 G E' H' [(0, .d (.sl none (bysD p0))), (3, .ptr 0 0), (4, iV r3.2), (5, .d (.sl none (rowsD (r4.1.getD [])))), (6, iV r4.2)] [.box (colD r3.1)]) ?_ ?_
    · have h := hss10
      clear hss10
      refine ACode_seq (ACode_region ?_)
      refine AOps_q 42 _ rfl rfl rfl (QOp_loadN_ptr _ _ _ _ _ _ _ rfl Try.isAgg26 Try.sizeOf26 rfl rfl (colD_all _) (colD_length _)) ?_
      refine AOps_q 43 _ rfl rfl rfl (QOp_move _ _ rfl rfl) ?_
      obtain ⟨r5, hr5, h⟩ := bindO h
      refine AOps_call [] 44 _ _ _ _ _ _ _ _ _ _ rfl rfl rfl rfl rfl rfl rfl Try.call38 rfl (nodupB_sound _ rfl) rfl rfl rfl (spec_ComponentsOf_ac k r3.1 r3.2 _ hr5) ?_
      rintro _ _ ⟨rfl, rfl⟩
      refine ⟨(fun _ h => nomatch h), (allc (trivial) (allc (trivial) (fun _ h => nomatch h))), AOps_as 44 (v' := .tup [.d (.sl none (rowsD r5.1)), iV r5.2]) (H' := [.box (colD r3.1)]) rfl rfl ?_⟩
      refine AOps_q 41 _ rfl rfl rfl (QOp_move _ _ rfl rfl) ?_
      refine AOps_q 45 _ rfl rfl rfl (QOp_extract _ _ _ _ rfl rfl rfl) ?_
      refine AOps_q 46 _ rfl rfl rfl (QOp_extract _ _ _ _ rfl rfl rfl) ?_
      refine AOps_q 7 _ rfl rfl rfl (QOp_assign _ _ rfl rfl) ?_
      refine AOps_q 8 _ rfl rfl rfl (QOp_assign _ _ rfl rfl) ?_
      refine AOps_nil ?_
      obtain ⟨s8, hss8, hks8⟩ := bindO h
      clear h
      refine ACode_seqJ (fun E' H' => Weak 193 G E' H' [(0, .d (.sl none (bysD p0))), (3, .ptr 0 0), (4, iV r3.2), (5, .d (.sl none (rowsD (r4.1.getD [])))), (6, iV r4.2), (55, bV s8)] [.box (colD r3.1)]) ?_ ?_
      · have h := hss8
        clear hss8
        refine (ACode_region ?_)
        refine AOps_q 47 _ rfl rfl rfl (QOp_move _ _ rfl rfl) ?_
        refine AOps_q 48 _ rfl rfl rfl (QOp_move _ _ rfl rfl) ?_
        refine AOps_q 49 _ rfl rfl rfl (QOp_neq _ _ _ _ _ _ _ rfl rfl rfl) ?_
        refine AOps_q 50 _ rfl rfl rfl (QOp_move _ _ rfl rfl) ?_
        refine AOps_case 50 _ rfl (fun hb6 => ?_) (fun hb6 => ?_)
        · have h := iteT hb6 h
          refine AOps_skip 51 rfl rfl rfl ?_
          refine AOps_skip 52 rfl rfl rfl ?_
          refine AOps_skip 53 rfl rfl rfl ?_
          refine AOps_skip 54 rfl rfl rfl ?_
          refine AOps_q 55 _ rfl rfl rfl (QOp_pick_t _ _ _ _ rfl rfl rfl) ?_
          refine AOps_nil ?_
          cases h
          exact Weak_keep 0 hm [0, 3, 4, 5, 6, 55] [0] _ _ rfl rfl rfl
        · have h := iteF hb6 h
          refine AOps_q 51 _ rfl rfl rfl (QOp_move _ _ rfl rfl) ?_
          refine AOps_q 52 _ rfl rfl rfl (QOp_move _ _ rfl rfl) ?_
          obtain ⟨r7, hr7, h⟩ := bindO h
          refine AOps_call [] 53 _ _ _ _ _ _ _ _ _ _ rfl rfl rfl rfl rfl rfl rfl Try.call39 rfl (nodupB_sound _ rfl) rfl rfl rfl (laws_rows9_ac k (r4.1.getD []) r5.1 _ hr7) ?_
          rintro _ _ ⟨rfl, rfl⟩
          refine ⟨(fun _ h => nomatch h), (allc (trivial) (fun _ h => nomatch h)), AOps_as 53 (v' := bV r7) (H' := [.box (colD r3.1)]) rfl rfl ?_⟩
          refine AOps_q 54 _ rfl rfl rfl (QOp_not _ _ _ rfl rfl) ?_
          refine AOps_q 55 _ rfl rfl rfl (QOp_pick_f _ _ _ _ rfl rfl rfl) ?_
          refine AOps_nil ?_
          cases h
          exact Weak_keep 0 hm [0, 3, 4, 5, 6, 55] [0] _ _ rfl rfl rfl
      intro E' H' hw
      refine ACode_weak hw ?_
      have h := hks8
      refine ACode_cond _ rfl (fun hb9 => ?_) (fun hb9 => ?_)
      · have h := iteT hb9 h
        refine ACode_seq (ACode_region ?_)
        refine AOps_q 2 _ rfl rfl rfl (QOp_assign _ _ rfl rfl) ?_
        refine AOps_nil ?_
        refine ACode_ret ?_
        cases h
        have h := hks10
        cases h
        exact ⟨_, _, fun r a w h => ⟨r, h⟩, _, _, [], _, (.cons (ResV_tmp _ _ rfl) .nil), rfl, rfl, rfl, rfl, rfl⟩
      · have h := iteF hb9 h
        refine ACode_skip ?_
        cases h
        exact ⟨_, rfl, Weak_keep 0 hm [0, 3, 4, 5, 6] [0] _ _ rfl rfl rfl⟩
    rintro E' H' ⟨s10, rfl, hw⟩
    refine ACode_weak hw ?_
    have h := hks10
    refine ACode_seq (ACode_region ?_)
    refine AOps_q 57 _ rfl rfl rfl (QOp_move _ _ rfl rfl) ?_
    obtain ⟨r11, hr11, h⟩ := bindO h
    refine AOps_call [] 58 _ _ _ _ _ _ _ _ _ _ rfl rfl rfl rfl rfl rfl rfl Try.call40 rfl (nodupB_sound _ rfl) rfl rfl rfl (spec_DrawSidesOf_ac k p0 _ hr11) ?_
    rintro _ _ ⟨rfl, rfl⟩
    refine ⟨(fun _ h => nomatch h), (allc (trivial) (allc (trivial) (fun _ h => nomatch h))), AOps_as 58 (v' := .tup [.d (.agg (colD r11.1)), iV r11.2]) (H' := [.box (colD r3.1)]) rfl rfl ?_⟩
    refine AOps_q 56 _ rfl rfl rfl (QOp_move _ _ rfl rfl) ?_
    refine AOps_q 59 _ rfl rfl rfl (QOp_extract _ _ _ _ rfl rfl rfl) ?_
    refine AOps_q 60 _ rfl rfl rfl (QOp_extract _ _ _ _ rfl rfl rfl) ?_
    refine AOps_alloc 9 _ _ (colD Col.zero) (zero_of Try.typeInfo26 rfl) (by rfl) rfl rfl rfl rfl ?_
    refine AOps_store _ _ _ _ _ _ (colD _) _ _ rfl rfl rfl rfl rfl rfl rfl (colD_one _) (by rw [colD_length]; exact Try.sizeOf26) (by rw [colD_length, colD_length]; decide) (colD_whole _ _) ?_
    refine AOps_q 10 _ rfl rfl rfl (QOp_assign _ _ rfl rfl) ?_
    refine AOps_nil ?_
    refine ACode_seq (ACode_region ?_)
    refine AOps_q 62 _ rfl rfl rfl (QOp_loadN_ptr _ _ _ _ _ _ _ rfl Try.isAgg26 Try.sizeOf26 rfl rfl (colD_all _) (colD_length _)) ?_
    refine AOps_q 63 _ rfl rfl rfl (QOp_move _ _ rfl rfl) ?_
    obtain ⟨r12, hr12, h⟩ := bindO h
    refine AOps_call [] 64 _ _ _ _ _ _ _ _ _ _ rfl rfl rfl rfl rfl rfl rfl Try.call41 rfl (nodupB_sound _ rfl) rfl rfl rfl (AC_frz rfl (frz_cons frz_nil) (impl_SidesOf_ac k r11.1 r11.2 _ hr12)) ?_
    rintro _ _ ⟨rfl, rfl⟩
    refine ⟨(fun _ h => nomatch h), (allc (trivial) (allc (trivial) (fun _ h => nomatch h))), AOps_as 64 (v' := .tup [.d (.sl none (intsD (r12.1.getD []))), iV r12.2]) (H' := [.box (colD r3.1), .box (colD r11.1)]) rfl rfl ?_⟩
    refine AOps_q 61 _ rfl rfl rfl (QOp_move _ _ rfl rfl) ?_
    refine AOps_q 65 _ rfl rfl rfl (QOp_extract _ _ _ _ rfl rfl rfl) ?_
    refine AOps_q 66 _ rfl rfl rfl (QOp_extract _ _ _ _ rfl rfl rfl) ?_
    refine AOps_q 11 _ rfl rfl rfl (QOp_assign _ _ rfl rfl) ?_
    refine AOps_q 12 _ rfl rfl rfl (QOp_assign _ _ rfl rfl) ?_
    refine AOps_nil ?_
    obtain ⟨os18, hss18, hks18⟩ := bindO h
    clear h
    refine ACode_seqJ (fun E' H' => ∃ s18 : Unit, os18 = .inl s18 ∧ Weak 193 G E' H' [(0, .d (.sl none (bysD p0))), (3, .ptr 0 0), (4, iV r3.2), (5, .d (.sl none (rowsD (r4.1.getD [])))), (6, iV r4.2), (9, .ptr 1 0), (10, iV r11.2), (11, .d (.sl none (intsD (r12.1.getD [])))), (12, iV r12.2)] [.box (colD r3.1), .box (colD r11.1)]) ?_ ?_
    · have h := hss18
      clear hss18
      refine ACode_seq (ACode_region ?_)
      refine AOps_q 68 _ rfl rfl rfl (QOp_loadN_ptr _ _ _ _ _ _ _ rfl Try.isAgg26 Try.sizeOf26 rfl rfl (colD_all _) (colD_length _)) ?_
      refine AOps_q 69 _ rfl rfl rfl (QOp_move _ _ rfl rfl) ?_
      obtain ⟨r13, hr13, h⟩ := bindO h
      refine AOps_call [] 70 _ _ _ _ _ _ _ _ _ _ rfl rfl rfl rfl rfl rfl rfl Try.call42 rfl (nodupB_sound _ rfl) rfl rfl rfl (spec_SidesOf_ac k r11.1 r11.2 _ hr13) ?_
      rintro _ _ ⟨rfl, rfl⟩
      refine ⟨(fun _ h => nomatch h), (allc (trivial) (allc (trivial) (fun _ h => nomatch h))), AOps_as 70 (v' := .tup [.d (.sl none (intsD r13.1)), iV r13.2]) (H' := [.box (colD r3.1), .box (colD r11.1)]) rfl rfl ?_⟩
      refine AOps_q 67 _ rfl rfl rfl (QOp_move _ _ rfl rfl) ?_
      refine AOps_q 71 _ rfl rfl rfl (QOp_extract _ _ _ _ rfl rfl rfl) ?_
      refine AOps_q 72 _ rfl rfl rfl (QOp_extract _ _ _ _ rfl rfl rfl) ?_
      refine AOps_q 13 _ rfl rfl rfl (QOp_assign _ _ rfl rfl) ?_
      refine AOps_q 14 _ rfl rfl rfl (QOp_assign _ _ rfl rfl) ?_
      refine AOps_nil ?_
      obtain ⟨s16, hss16, hks16⟩ := bindO h
      clear h
      refine ACode_seqJ (fun E' H' => Weak 193 G E' H' [(0, .d (.sl none (bysD p0))), (3, .ptr 0 0), (4, iV r3.2), (5, .d (.sl none (rowsD (r4.1.getD [])))), (6, iV r4.2), (9, .ptr 1 0), (10, iV r11.2), (11, .d (.sl none (intsD (r12.1.getD [])))), (12, iV r12.2), (81, bV s16)] [.box (colD r3.1), .box (colD r11.1)]) ?_ ?_
      · have h := hss16
        clear hss16
        refine (ACode_region ?_)
        refine AOps_q 73 _ rfl rfl rfl (QOp_move _ _ rfl rfl) ?_
        refine AOps_q 74 _ rfl rfl rfl (QOp_move _ _ rfl rfl) ?_
        refine AOps_q 75 _ rfl rfl rfl (QOp_neq _ _ _ _ _ _ _ rfl rfl rfl) ?_
        refine AOps_q 76 _ rfl rfl rfl (QOp_move _ _ rfl rfl) ?_
        refine AOps_case 76 _ rfl (fun hb14 => ?_) (fun hb14 => ?_)
        · have h := iteT hb14 h
          refine AOps_skip 77 rfl rfl rfl ?_
          refine AOps_skip 78 rfl rfl rfl ?_
          refine AOps_skip 79 rfl rfl rfl ?_
          refine AOps_skip 80 rfl rfl rfl ?_
          refine AOps_q 81 _ rfl rfl rfl (QOp_pick_t _ _ _ _ rfl rfl rfl) ?_
          refine AOps_nil ?_
          cases h
          exact Weak_keep 0 hm [0, 3, 4, 5, 6, 9, 10, 11, 12, 81] [0, 1] _ _ rfl rfl rfl
        · have h := iteF hb14 h
          refine AOps_q 77 _ rfl rfl rfl (QOp_move _ _ rfl rfl) ?_
          refine AOps_q 78 _ rfl rfl rfl (QOp_move _ _ rfl rfl) ?_
          obtain ⟨r15, hr15, h⟩ := bindO h
          refine AOps_call [] 79 _ _ _ _ _ _ _ _ _ _ rfl rfl rfl rfl rfl rfl rfl Try.call10 rfl (nodupB_sound _ rfl) rfl rfl rfl (laws_likeInts_ac k (r12.1.getD []) r13.1 _ hr15) ?_
          rintro _ _ ⟨rfl, rfl⟩
          refine ⟨(fun _ h => nomatch h), (allc (trivial) (fun _ h => nomatch h)), AOps_as 79 (v' := bV r15) (H' := [.box (colD r3.1), .box (colD r11.1)]) rfl rfl ?_⟩
          refine AOps_q 80 _ rfl rfl rfl (QOp_not _ _ _ rfl rfl) ?_
          refine AOps_q 81 _ rfl rfl rfl (QOp_pick_f _ _ _ _ rfl rfl rfl) ?_
          refine AOps_nil ?_
          cases h
          exact Weak_keep 0 hm [0, 3, 4, 5, 6, 9, 10, 11, 12, 81] [0, 1] _ _ rfl rfl rfl
      intro E' H' hw
      refine ACode_weak hw ?_
      have h := hks16
      refine ACode_cond _ rfl (fun hb17 => ?_) (fun hb17 => ?_)
      · have h := iteT hb17 h
        refine ACode_seq (ACode_region ?_)
        refine AOps_q 2 _ rfl rfl rfl (QOp_assign _ _ rfl rfl) ?_
        refine AOps_nil ?_
        refine ACode_ret ?_
        cases h
        have h := hks18
        cases h
        exact ⟨_, _, fun r a w h => ⟨r, h⟩, _, _, [], _, (.cons (ResV_tmp _ _ rfl) .nil), rfl, rfl, rfl, rfl, rfl⟩
      · have h := iteF hb17 h
        refine ACode_skip ?_
        cases h
        exact ⟨_, rfl, Weak_keep 0 hm [0, 3, 4, 5, 6, 9, 10, 11, 12] [0, 1] _ _ rfl rfl rfl⟩
    rintro E' H' ⟨s18, rfl, hw⟩
    refine ACode_weak hw ?_
    have h := hks18
    refine ACode_seq (ACode_region ?_)
    refine AOps_q 82 _ rfl rfl rfl (QOp_move _ _ rfl rfl) ?_
    obtain ⟨r19, hr19, h⟩ := bindO h
    refine AOps_call [] 83 _ _ _ _ _ _ _ _ _ _ rfl rfl rfl rfl rfl rfl rfl Try.call43 rfl (nodupB_sound _ rfl) rfl rfl rfl (spec_DrawConnectedColours_ac k p0 _ hr19) ?_
    rintro _ _ ⟨rfl, rfl⟩
    refine ⟨(fun _ h => nomatch h), (allc (trivial) (fun _ h => nomatch h)), AOps_as 83 (v' := .d (.agg (colD r19))) (H' := [.box (colD r3.1), .box (colD r11.1)]) rfl rfl ?_⟩
    refine AOps_alloc 15 _ _ (colD Col.zero) (zero_of Try.typeInfo26 rfl) (by rfl) rfl rfl rfl rfl ?_
    refine AOps_store _ _ _ _ _ _ (colD _) _ _ rfl rfl rfl rfl rfl rfl rfl (colD_one _) (by rw [colD_length]; exact Try.sizeOf26) (by rw [colD_length, colD_length]; decide) (colD_whole _ _) ?_
    refine AOps_nil ?_
    refine ACode_seq (ACode_region ?_)
    refine AOps_q 85 _ rfl rfl rfl (QOp_loadN_ptr _ _ _ _ _ _ _ rfl Try.isAgg26 Try.sizeOf26 rfl rfl (colD_all _) (colD_length _)) ?_
    obtain ⟨r20, hr20, h⟩ := bindO h
    refine AOps_call [] 86 _ _ _ _ _ _ _ _ _ _ rfl rfl rfl rfl rfl rfl rfl Try.call44 rfl (nodupB_sound _ rfl) rfl rfl rfl (AC_frz rfl (frz_cons frz_nil) (impl_ConnectedColours_ac k r19 _ hr20)) ?_
    rintro _ _ ⟨rfl, rfl⟩
    refine ⟨(fun _ h => nomatch h), (allc (trivial) (allc (trivial) (fun _ h => nomatch h))), AOps_as 86 (v' := .tup [.d (.sl none (intsD (r20.1.getD []))), iV r20.2]) (H' := [.box (colD r3.1), .box (colD r11.1), .box (colD r19)]) rfl rfl ?_⟩
    refine AOps_q 84 _ rfl rfl rfl (QOp_move _ _ rfl rfl) ?_
    refine AOps_q 87 _ rfl rfl rfl (QOp_extract _ _ _ _ rfl rfl rfl) ?_
    refine AOps_q 88 _ rfl rfl rfl (QOp_extract _ _ _ _ rfl rfl rfl) ?_
    refine AOps_q 16 _ rfl rfl rfl (QOp_assign _ _ rfl rfl) ?_
    refine AOps_q 17 _ rfl rfl rfl (QOp_assign _ _ rfl rfl) ?_
    refine AOps_nil ?_
    obtain ⟨os26, hss26, hks26⟩ := bindO h
    clear h
    refine ACode_seqJ (fun E' H' => ∃ s26 : Unit, os26 = .inl s26 ∧ Weak 193 G E' H' [(3, .ptr 0 0), (4, iV r3.2), (5, .d (.sl none (rowsD (r4.1.getD [])))), (6, iV r4.2), (9, .ptr 1 0), (10, iV r11.2), (11, .d (.sl none (intsD (r12.1.getD [])))), (12, iV r12.2), (15, .ptr 2 0), (16, .d (.sl none (intsD (r20.1.getD [])))), (17, iV r20.2)] [.box (colD r3.1), .box (colD r11.1), .box (colD r19)]) ?_ ?_
    · have h := hss26
      clear hss26
      refine ACode_seq (ACode_region ?_)
      refine AOps_q 90 _ rfl rfl rfl (QOp_loadN_ptr _ _ _ _ _ _ _ rfl Try.isAgg26 Try.sizeOf26 rfl rfl (colD_all _) (colD_length _)) ?_
      obtain ⟨r21, hr21, h⟩ := bindO h
      refine AOps_call [] 91 _ _ _ _ _ _ _ _ _ _ rfl rfl rfl rfl rfl rfl rfl Try.call45 rfl (nodupB_sound _ rfl) rfl rfl rfl (spec_ConnectedColours_ac k r19 _ hr21) ?_
      rintro _ _ ⟨rfl, rfl⟩
      refine ⟨(fun _ h => nomatch h), (allc (trivial) (allc (trivial) (fun _ h => nomatch h))), AOps_as 91 (v' := .tup [.d (.sl none (intsD r21.1)), iV r21.2]) (H' := [.box (colD r3.1), .box (colD r11.1), .box (colD r19)]) rfl rfl ?_⟩
      refine AOps_q 89 _ rfl rfl rfl (QOp_move _ _ rfl rfl) ?_
      refine AOps_q 92 _ rfl rfl rfl (QOp_extract _ _ _ _ rfl rfl rfl) ?_
      refine AOps_q 93 _ rfl rfl rfl (QOp_extract _ _ _ _ rfl rfl rfl) ?_
      refine AOps_q 18 _ rfl rfl rfl (QOp_assign _ _ rfl rfl) ?_
      refine AOps_q 19 _ rfl rfl rfl (QOp_assign _ _ rfl rfl) ?_
      refine AOps_nil ?_
      obtain ⟨s24, hss24, hks24⟩ := bindO h
      clear h
      refine ACode_seqJ (fun E' H' => Weak 193 G E' H' [(3, .ptr 0 0), (4, iV r3.2), (5, .d (.sl none (rowsD (r4.1.getD [])))), (6, iV r4.2), (9, .ptr 1 0), (10, iV r11.2), (11, .d (.sl none (intsD (r12.1.getD [])))), (12, iV r12.2), (15, .ptr 2 0), (16, .d (.sl none (intsD (r20.1.getD [])))), (17, iV r20.2), (102, bV s24)] [.box (colD r3.1), .box (colD r11.1), .box (colD r19)]) ?_ ?_
      · have h := hss24
        clear hss24
        refine (ACode_region ?_)
        refine AOps_q 94 _ rfl rfl rfl (QOp_move _ _ rfl rfl) ?_
        refine AOps_q 95 _ rfl rfl rfl (QOp_move _ _ rfl rfl) ?_
        refine AOps_q 96 _ rfl rfl rfl (QOp_neq _ _ _ _ _ _ _ rfl rfl rfl) ?_
        refine AOps_q 97 _ rfl rfl rfl (QOp_move _ _ rfl rfl) ?_
        refine AOps_case 97 _ rfl (fun hb22 => ?_) (fun hb22 => ?_)
        · have h := iteT hb22 h
          refine AOps_skip 98 rfl rfl rfl ?_
          refine AOps_skip 99 rfl rfl rfl ?_
          refine AOps_skip 100 rfl rfl rfl ?_
          refine AOps_skip 101 rfl rfl rfl ?_
          refine AOps_q 102 _ rfl rfl rfl (QOp_pick_t _ _ _ _ rfl rfl rfl) ?_
          refine AOps_nil ?_
          cases h
          exact Weak_keep 0 hm [3, 4, 5, 6, 9, 10, 11, 12, 15, 16, 17, 102] [0, 1, 2] _ _ rfl rfl rfl
        · have h := iteF hb22 h
          refine AOps_q 98 _ rfl rfl rfl (QOp_move _ _ rfl rfl) ?_
          refine AOps_q 99 _ rfl rfl rfl (QOp_move _ _ rfl rfl) ?_
          obtain ⟨r23, hr23, h⟩ := bindO h
          refine AOps_call [] 100 _ _ _ _ _ _ _ _ _ _ rfl rfl rfl rfl rfl rfl rfl Try.call10 rfl (nodupB_sound _ rfl) rfl rfl rfl (laws_likeInts_ac k (r20.1.getD []) r21.1 _ hr23) ?_
          rintro _ _ ⟨rfl, rfl⟩
          refine ⟨(fun _ h => nomatch h), (allc (trivial) (fun _ h => nomatch h)), AOps_as 100 (v' := bV r23) (H' := [.box (colD r3.1), .box (colD r11.1), .box (colD r19)]) rfl rfl ?_⟩
          refine AOps_q 101 _ rfl rfl rfl (QOp_not _ _ _ rfl rfl) ?_
          refine AOps_q 102 _ rfl rfl rfl (QOp_pick_f _ _ _ _ rfl rfl rfl) ?_
          refine AOps_nil ?_
          cases h
          exact Weak_keep 0 hm [3, 4, 5, 6, 9, 10, 11, 12, 15, 16, 17, 102] [0, 1, 2] _ _ rfl rfl rfl
      intro E' H' hw
      refine ACode_weak hw ?_
      have h := hks24
      refine ACode_cond _ rfl (fun hb25 => ?_) (fun hb25 => ?_)
      · have h := iteT hb25 h
        refine ACode_seq (ACode_region ?_)
        refine AOps_q 2 _ rfl rfl rfl (QOp_assign _ _ rfl rfl) ?_
        refine AOps_nil ?_
        refine ACode_ret ?_
        cases h
        have h := hks26
        cases h
        exact ⟨_, _, fun r a w h => ⟨r, h⟩, _, _, [], _, (.cons (ResV_tmp _ _ rfl) .nil), rfl, rfl, rfl, rfl, rfl⟩
      · have h := iteF hb25 h
        refine ACode_skip ?_
        cases h
        exact ⟨_, rfl, Weak_keep 0 hm [3, 4, 5, 6, 9, 10, 11, 12, 15, 16, 17] [0, 1, 2] _ _ rfl rfl rfl⟩
    rintro E' H' ⟨s26, rfl, hw⟩
    refine ACode_weak hw ?_
    have h := hks26
    obtain ⟨os31, hss31, hks31⟩ := bindO h
    clear h
    refine ACode_seqJ (fun E' H' => ∃ s31 : Unit, os31 = .inl s31 ∧ Weak 193 G E' H' [(3, .ptr 0 0), (4, iV r3.2), (5, .d (.sl none (rowsD (r4.1.getD [])))), (6, iV r4.2), (9, .ptr 1 0), (10, iV r11.2), (11, .d (.sl none (intsD (r12.1.getD [])))), (12, iV r12.2)] [.box (colD r3.1), .box (colD r11.1)]) ?_ ?_
    · have h := hss31
      clear hss31
      obtain ⟨s29, hss29, hks29⟩ := letS h
      clear h
      refine ACode_seqJ (fun E' H' => Weak 193 G E' H' [(3, .ptr 0 0), (4, iV r3.2), (5, .d (.sl none (rowsD (r4.1.getD [])))), (6, iV r4.2), (9, .ptr 1 0), (10, iV r11.2), (11, .d (.sl none (intsD (r12.1.getD [])))), (12, iV r12.2), (114, bV s29)] [.box (colD r3.1), .box (colD r11.1)]) ?_ ?_
      · have h := hss29
        clear hss29
        refine (ACode_region ?_)
        refine AOps_q 103 _ rfl rfl rfl (QOp_move _ _ rfl rfl) ?_
        refine AOps_q 104 _ rfl rfl rfl (QOp_eql _ _ _ _ _ _ _ rfl rfl rfl) ?_
        refine AOps_q 105 _ rfl rfl rfl (QOp_move _ _ rfl rfl) ?_
        refine AOps_case 105 _ rfl (fun hb27 => ?_) (fun hb27 => ?_)
        · have h := iteT hb27 h
          refine AOps_q 106 _ rfl rfl rfl (QOp_fieldAddr_ptr _ _ _ _ _ _ 1 _ _ rfl Try.underlying26 rfl _ Try.sizeOf2 rfl rfl rfl rfl) ?_
          refine AOps_q 107 _ rfl rfl rfl (QOp_load_ptr _ _ _ _ _ _ rfl Try.isAgg2 rfl rfl rfl) ?_
          refine AOps_q 108 _ rfl rfl rfl (QOp_leq _ _ _ _ _ _ _ rfl rfl rfl) ?_
          refine AOps_q 109 _ rfl rfl rfl (QOp_pick_t _ _ _ _ rfl rfl rfl) ?_
          refine AOps_q 110 _ rfl rfl rfl (QOp_move _ _ rfl rfl) ?_
          refine AOps_case 110 _ rfl (fun hb28 => ?_) (fun hb28 => ?_)
          · have h := iteT hb28 h
            refine AOps_q 111 _ rfl rfl rfl (QOp_move _ _ rfl rfl) ?_
            refine AOps_q 112 _ rfl rfl rfl (QOp_len_sl _ _ _ _ _ _ _ (intsD_length _) rfl rfl rfl rfl Try.underlying29 rfl) ?_
            refine AOps_q 113 _ rfl rfl rfl (QOp_eql _ _ _ _ _ _ _ rfl rfl rfl) ?_
            refine AOps_q 114 _ rfl rfl rfl (QOp_pick_t _ _ _ _ rfl rfl rfl) ?_
            refine AOps_nil ?_
            cases h
            exact Weak_keep 0 hm [3, 4, 5, 6, 9, 10, 11, 12, 114] [0, 1] _ _ rfl rfl rfl
          · have h := iteF hb28 h
            refine AOps_skip 111 rfl rfl rfl ?_
            refine AOps_skip 112 rfl rfl rfl ?_
            refine AOps_skip 113 rfl rfl rfl ?_
            refine AOps_q 114 _ rfl rfl rfl (QOp_pick_f _ _ _ _ rfl rfl rfl) ?_
            refine AOps_nil ?_
            cases h
            exact Weak_keep 0 hm [3, 4, 5, 6, 9, 10, 11, 12, 114] [0, 1] _ _ rfl rfl rfl
        · have h := iteF hb27 h
          refine AOps_skip 106 rfl rfl rfl ?_
          refine AOps_skip 107 rfl rfl rfl ?_
          refine AOps_skip 108 rfl rfl rfl ?_
          refine AOps_q 109 _ rfl rfl rfl (QOp_pick_f _ _ _ _ rfl rfl rfl) ?_
          refine AOps_q 110 _ rfl rfl rfl (QOp_move _ _ rfl rfl) ?_
          refine AOps_skip 111 rfl rfl rfl ?_
          refine AOps_skip 112 rfl rfl rfl ?_
          refine AOps_skip 113 rfl rfl rfl ?_
          refine AOps_q 114 _ rfl rfl rfl (QOp_pick_f _ _ _ _ rfl rfl rfl) ?_
          refine AOps_nil ?_
          cases h
          exact Weak_keep 0 hm [3, 4, 5, 6, 9, 10, 11, 12, 114] [0, 1] _ _ rfl rfl rfl
      intro E' H' hw
      refine ACode_weak hw ?_
      have h := hks29
      refine ACode_cond _ rfl (fun hb30 => ?_) (fun hb30 => ?_)
      · have h := iteT hb30 h
        refine ACode_seq (ACode_region ?_)
        refine AOps_q 2 _ rfl rfl rfl (QOp_assign _ _ rfl rfl) ?_
        refine AOps_nil ?_
        refine ACode_ret ?_
        cases h
        have h := hks31
        cases h
        exact ⟨_, _, fun r a w h => ⟨r, h⟩, _, _, [], _, (.cons (ResV_tmp _ _ rfl) .nil), rfl, rfl, rfl, rfl, rfl⟩
      · have h := iteF hb30 h
        refine ACode_skip ?_
        cases h
        exact ⟨_, rfl, Weak_keep 0 hm [3, 4, 5, 6, 9, 10, 11, 12] [0, 1] _ _ rfl rfl rfl⟩
    rintro E' H' ⟨s31, rfl, hw⟩
    refine ACode_weak hw ?_
    have h := hks31
    obtain ⟨os46, hss46, hks46⟩ := bindO h
    clear h
    refine ACode_seqJ (fun E' H' => ∃ s46 : Unit, os46 = .inl s46 ∧ Weak 193 G E' H' [(3, .ptr 0 0), (4, iV r3.2), (5, .d (.sl none (rowsD (r4.1.getD [])))), (6, iV r4.2)] [.box (colD r3.1)]) ?_ ?_
    · have h := hss46
      clear hss46
      refine ACode_seq (ACode_region ?_)
      refine AOps_q 115 _ rfl rfl rfl (QOp_move _ _ rfl rfl) ?_
      refine AOps_q 116 _ rfl rfl rfl (QOp_eql _ _ _ _ _ _ _ rfl rfl rfl) ?_
      refine AOps_nil ?_
      refine ACode_cond _ rfl (fun hb32 => ?_) (fun hb32 => ?_)
      · have h := iteT hb32 h
        refine ACode_seq (ACode_region ?_)
        refine AOps_q 20 _ rfl rfl rfl (QOp_assign _ _ rfl rfl) ?_
        refine AOps_nil ?_
        refine ACode_block ?_
        refine ACode_loopW (fun k0 E H => ∃ (x33 : Int), E = [(3, .ptr 0 0), (4, iV r3.2), (5, .d (.sl none (rowsD (r4.1.getD [])))), (6, iV r4.2), (9, .ptr 1 0), (10, iV r11.2), (11, .d (.sl none (intsD (r12.1.getD [])))), (20, iV x33)] ∧ H = [.box (colD r3.1), .box (colD r11.1)] ∧ laws_FnParts_l0 k r11 r12 k0 x33 = some os46) k _ _ (Weak_keep 0 hm [3, 4, 5, 6, 9, 10, 11, 20] [0, 1] _ _ rfl rfl rfl) ⟨_, rfl, rfl, h⟩ ?_
        clear h
        rintro k0 E H ⟨x33, rfl, rfl, h⟩
        cases k0 with
        | zero => cases (show (none : Option (Sum (Unit) (Bool))) = some _ from h)
        | succ k0 =>
          rw [laws_FnParts_l0] at h
          refine ACode_seq ?_
          refine ACode_seq (ACode_region ?_)
          refine AOps_q 117 _ rfl rfl rfl (QOp_move _ _ rfl rfl) ?_
          refine AOps_q 118 _ rfl rfl rfl (QOp_fieldAddr_ptr _ _ _ _ _ _ 0 _ _ rfl Try.underlying26 rfl _ Try.sizeOf2 rfl rfl rfl rfl) ?_
          refine AOps_q 119 _ rfl rfl rfl (QOp_load_ptr _ _ _ _ _ _ rfl Try.isAgg2 rfl rfl rfl) ?_
          refine AOps_q 120 _ rfl rfl rfl (QOp_lss _ _ _ _ _ _ _ rfl rfl rfl) ?_
          refine AOps_nil ?_
          refine ACode_cond _ rfl (fun hb34 => ?_) (fun hb34 => ?_)
          · have h := iteT hb34 h
            refine ACode_skip ?_
            obtain ⟨os45, hss45, hks45⟩ := bindO h
            clear h
            refine ACode_seqJ (fun E' H' => ∃ s45 : Unit, os45 = .inl s45 ∧ Weak 193 G E' H' [(3, .ptr 0 0), (4, iV r3.2), (5, .d (.sl none (rowsD (r4.1.getD [])))), (6, iV r4.2), (9, .ptr 1 0), (10, iV r11.2), (11, .d (.sl none (intsD (r12.1.getD [])))), (20, iV x33)] [.box (colD r3.1), .box (colD r11.1)]) ?_ ?_
            · have h := hss45
              clear hss45
              refine ACode_block ?_
              refine ACode_seq (ACode_region ?_)
              refine AOps_q 21 _ rfl rfl rfl (QOp_assign _ _ rfl rfl) ?_
              refine AOps_nil ?_
              refine ACode_block ?_
              refine ACode_loopW (fun k1 E H => ∃ (x35 : Int), E = [(3, .ptr 0 0), (4, iV r3.2), (5, .d (.sl none (rowsD (r4.1.getD [])))), (6, iV r4.2), (9, .ptr 1 0), (10, iV r11.2), (11, .d (.sl none (intsD (r12.1.getD [])))), (20, iV x33), (21, iV x35)] ∧ H = [.box (colD r3.1), .box (colD r11.1)] ∧ laws_FnParts_l1 k r11 r12 x33 k1 x35 = some os45) k _ _ (Weak_keep 0 hm [3, 4, 5, 6, 9, 10, 11, 20, 21] [0, 1] _ _ rfl rfl rfl) ⟨_, rfl, rfl, h⟩ ?_
              clear h
              rintro k1 E H ⟨x35, rfl, rfl, h⟩
              cases k1 with
              | zero => cases (show (none : Option (Sum (Unit) (Sum (Unit) (Bool)))) = some _ from h)
              | succ k1 =>
                rw [laws_FnParts_l1] at h
                refine ACode_seq ?_
                refine ACode_seq (ACode_region ?_)
                refine AOps_q 123 _ rfl rfl rfl (QOp_move _ _ rfl rfl) ?_
                refine AOps_q 124 _ rfl rfl rfl (QOp_move _ _ rfl rfl) ?_
                refine AOps_q 125 _ rfl rfl rfl (QOp_lss _ _ _ _ _ _ _ rfl rfl rfl) ?_
                refine AOps_nil ?_
                refine ACode_cond _ rfl (fun hb36 => ?_) (fun hb36 => ?_)
                · have h := iteT hb36 h
                  refine ACode_skip ?_
                  obtain ⟨os44, hss44, hks44⟩ := bindO h
                  clear h
                  refine ACode_seqJ (fun E' H' => ∃ s44 : Unit, os44 = .inl s44 ∧ Weak 193 G E' H' [(3, .ptr 0 0), (4, iV r3.2), (5, .d (.sl none (rowsD (r4.1.getD [])))), (6, iV r4.2), (9, .ptr 1 0), (10, iV r11.2), (11, .d (.sl none (intsD (r12.1.getD [])))), (20, iV x33), (21, iV x35)] [.box (colD r3.1), .box (colD r11.1)]) ?_ ?_
                  · have h := hss44
                    clear hss44
                    refine ACode_block ?_
                    refine ACode_seq (ACode_region ?_)
                    refine AOps_q 129 _ rfl rfl rfl (QOp_loadN_ptr _ _ _ _ _ _ _ rfl Try.isAgg26 Try.sizeOf26 rfl rfl (colD_all _) (colD_length _)) ?_
                    refine AOps_q 130 _ rfl rfl rfl (QOp_move _ _ rfl rfl) ?_
                    refine AOps_q 131 _ rfl rfl rfl (QOp_move _ _ rfl rfl) ?_
                    obtain ⟨r37, hr37, h⟩ := bindO h
                    refine AOps_call [] 132 _ _ _ _ _ _ _ _ _ _ rfl rfl rfl rfl rfl rfl rfl Try.call22 rfl (nodupB_sound _ rfl) rfl rfl rfl (impl_ColourOf_ac k r11.1 x35 x33 _ hr37) ?_
                    rintro _ _ ⟨rfl, rfl⟩
                    refine ⟨(fun _ h => nomatch h), (allc (trivial) (allc (trivial) (fun _ h => nomatch h))), AOps_as 132 (v' := .tup [iV r37.1, iV r37.2]) (H' := [.box (colD r3.1), .box (colD r11.1)]) rfl rfl ?_⟩
                    refine AOps_q 128 _ rfl rfl rfl (QOp_move _ _ rfl rfl) ?_
                    refine AOps_q 133 _ rfl rfl rfl (QOp_extract _ _ _ _ rfl rfl rfl) ?_
                    refine AOps_q 134 _ rfl rfl rfl (QOp_extract _ _ _ _ rfl rfl rfl) ?_
                    refine AOps_q 22 _ rfl rfl rfl (QOp_assign _ _ rfl rfl) ?_
                    refine AOps_q 23 _ rfl rfl rfl (QOp_assign _ _ rfl rfl) ?_
                    refine AOps_nil ?_
                    obtain ⟨s42, hss42, hks42⟩ := bindO h
                    clear h
                    refine ACode_seqJ (fun E' H' => Weak 193 G E' H' [(3, .ptr 0 0), (4, iV r3.2), (5, .d (.sl none (rowsD (r4.1.getD [])))), (6, iV r4.2), (9, .ptr 1 0), (10, iV r11.2), (11, .d (.sl none (intsD (r12.1.getD [])))), (20, iV x33), (21, iV x35), (152, bV s42)] [.box (colD r3.1), .box (colD r11.1)]) ?_ ?_
                    · have h := hss42
                      clear hss42
                      refine (ACode_quiet mixed (by kernel_rfl) ?_)
                      refine AQ_q 135 _ rfl rfl rfl (QOp_move _ _ rfl rfl) ?_
                      refine AQ_q 136 _ rfl rfl rfl (QOp_neq _ _ _ _ _ _ _ rfl rfl rfl) ?_
                      refine AQ_q 137 _ rfl rfl rfl (QOp_move _ _ rfl rfl) ?_
                      refine AQ_case 137 _ rfl (fun hb38 => ?_) (fun hb38 => ?_)
                      · have h := iteT hb38 h
                        refine AQ_skip 138 rfl rfl rfl ?_
                        refine AQ_skip 139 rfl rfl rfl ?_
                        refine AQ_skip 140 rfl rfl rfl ?_
                        refine AQ_skip 141 rfl rfl rfl ?_
                        refine AQ_skip 142 rfl rfl rfl ?_
                        refine AQ_skip 143 rfl rfl rfl ?_
                        refine AQ_skip 144 rfl rfl rfl ?_
                        refine AQ_skip 145 rfl rfl rfl ?_
                        refine AQ_skip 146 rfl rfl rfl ?_
                        refine AQ_skip 147 rfl rfl rfl ?_
                        refine AQ_skip 148 rfl rfl rfl ?_
                        refine AQ_skip 149 rfl rfl rfl ?_
                        refine AQ_skip 150 rfl rfl rfl ?_
                        refine AQ_skip 151 rfl rfl rfl ?_
                        refine AQ_q 152 _ rfl rfl rfl (QOp_pick_t _ _ _ _ rfl rfl rfl) ?_
                        refine AQ_nil ?_
                        cases h
                        exact Weak_keep 0 hm [3, 4, 5, 6, 9, 10, 11, 20, 21, 152] [0, 1] _ _ rfl rfl rfl
                      · have h := iteF hb38 h
                        refine AQ_q 138 _ rfl rfl rfl (QOp_move _ _ rfl rfl) ?_
                        refine AQ_q 139 _ rfl rfl rfl (QOp_move _ _ rfl rfl) ?_
                        refine AQ_q 140 _ rfl rfl rfl (QOp_eql _ _ _ _ _ _ _ rfl rfl rfl) ?_
                        refine AQ_q 141 _ rfl rfl rfl (QOp_move _ _ rfl rfl) ?_
                        refine AQ_case 141 _ rfl (fun hb39 => ?_) (fun hb39 => ?_)
                        · have h := iteT hb39 h
                          refine AQ_q 142 _ rfl rfl rfl (QOp_move _ _ rfl rfl) ?_
                          refine AQ_q 143 _ rfl rfl rfl (QOp_move _ _ rfl rfl) ?_
                          obtain ⟨hc40, h⟩ := guardO h
                          refine AQ_q 144 _ rfl rfl rfl (QOp_indexAddr_sl _ _ _ _ _ _ _ _ rfl Try.underlying29 Try.sizeOf2 hc40.1 (by rw [intsD_length]; exact hc40.2) rfl rfl) ?_
                          refine AQ_q 145 _ rfl rfl rfl (QOp_load_pv _ _ _ _ _ rfl Try.isAgg2 rfl (intsD_get _ _ 0 (by omega))) ?_
                          refine AQ_q 146 _ rfl rfl rfl (QOp_move _ _ rfl rfl) ?_
                          refine AQ_q 147 _ rfl rfl rfl (QOp_move _ _ rfl rfl) ?_
                          obtain ⟨hc41, h⟩ := guardO h
                          refine AQ_q 148 _ rfl rfl rfl (QOp_indexAddr_sl _ _ _ _ _ _ _ _ rfl Try.underlying29 Try.sizeOf2 hc41.1 (by rw [intsD_length]; exact hc41.2) rfl rfl) ?_
                          refine AQ_q 149 _ rfl rfl rfl (QOp_load_pv _ _ _ _ _ rfl Try.isAgg2 rfl (intsD_get _ _ 0 (by omega))) ?_
                          refine AQ_q 150 _ rfl rfl rfl (QOp_eql _ _ _ _ _ _ _ rfl rfl rfl) ?_
                          refine AQ_q 151 _ rfl rfl rfl (QOp_pick_t _ _ _ _ rfl rfl rfl) ?_
                          refine AQ_q 152 _ rfl rfl rfl (QOp_pick_f _ _ _ _ rfl rfl rfl) ?_
                          refine AQ_nil ?_
                          cases h
                          exact Weak_keep 0 hm [3, 4, 5, 6, 9, 10, 11, 20, 21, 152] [0, 1] _ _ rfl rfl rfl
                        · have h := iteF hb39 h
                          refine AQ_skip 142 rfl rfl rfl ?_
                          refine AQ_skip 143 rfl rfl rfl ?_
                          refine AQ_skip 144 rfl rfl rfl ?_
                          refine AQ_skip 145 rfl rfl rfl ?_
                          refine AQ_skip 146 rfl rfl rfl ?_
                          refine AQ_skip 147 rfl rfl rfl ?_
                          refine AQ_skip 148 rfl rfl rfl ?_
                          refine AQ_skip 149 rfl rfl rfl ?_
                          refine AQ_skip 150 rfl rfl rfl ?_
                          refine AQ_q 151 _ rfl rfl rfl (QOp_pick_f _ _ _ _ rfl rfl rfl) ?_
                          refine AQ_q 152 _ rfl rfl rfl (QOp_pick_f _ _ _ _ rfl rfl rfl) ?_
                          refine AQ_nil ?_
                          cases h
                          exact Weak_keep 0 hm [3, 4, 5, 6, 9, 10, 11, 20, 21, 152] [0, 1] _ _ rfl rfl rfl
                    intro E' H' hw
                    refine ACode_weak hw ?_
                    have h := hks42
                    refine ACode_cond _ rfl (fun hb43 => ?_) (fun hb43 => ?_)
                    · have h := iteT hb43 h
                      refine ACode_seq (ACode_region ?_)
                      refine AOps_q 2 _ rfl rfl rfl (QOp_assign _ _ rfl rfl) ?_
                      refine AOps_nil ?_
                      refine ACode_ret ?_
                      obtain ⟨rr, hz59, h2⟩ := bindO h
                      obtain rfl := Option.some.inj h2
                      obtain rfl := Option.some.inj (show some rr = some _ from hks44)
                      have h := hz59
                      obtain ⟨rr, hz58, h2⟩ := bindO h
                      obtain rfl := Option.some.inj h2
                      obtain rfl := Option.some.inj (show some rr = some _ from hks45)
                      have h := hz58
                      cases h
                      have h := hks46
                      cases h
                      exact ⟨_, _, fun r a w h => ⟨r, h⟩, _, _, [], _, (.cons (ResV_tmp _ _ rfl) .nil), rfl, rfl, rfl, rfl, rfl⟩
                    · have h := iteF hb43 h
                      refine ACode_skip ?_
                      cases h
                      exact ⟨_, rfl, Weak_keep 0 hm [3, 4, 5, 6, 9, 10, 11, 20, 21] [0, 1] _ _ rfl rfl rfl⟩
                  rintro E' H' ⟨s44, rfl, hw⟩
                  refine ACode_weak hw ?_
                  have h := hks44
                  refine (ACode_region ?_)
                  refine AOps_q 126 _ rfl rfl rfl (QOp_move _ _ rfl rfl) ?_
                  refine AOps_q 127 _ rfl rfl rfl (QOp_add _ _ _ _ _ _ _ rfl rfl rfl) ?_
                  refine AOps_q 21 _ rfl rfl rfl (QOp_assign _ _ rfl rfl) ?_
                  refine AOps_nil ?_
                  exact ⟨k1, _, _, Nat.lt_succ_self _, Weak_keep 0 hm [3, 4, 5, 6, 9, 10, 11, 20, 21] [0, 1] _ _ rfl rfl rfl, _, rfl, rfl, h⟩
                · have h := iteF hb36 h
                  refine ACode_exit ?_
                  cases h
                  exact ⟨_, rfl, Weak_keep 0 hm [3, 4, 5, 6, 9, 10, 11, 20] [0, 1] _ _ rfl rfl rfl⟩
            rintro E' H' ⟨s45, rfl, hw⟩
            refine ACode_weak hw ?_
            have h := hks45
            refine (ACode_region ?_)
            refine AOps_q 121 _ rfl rfl rfl (QOp_move _ _ rfl rfl) ?_
            refine AOps_q 122 _ rfl rfl rfl (QOp_add _ _ _ _ _ _ _ rfl rfl rfl) ?_
            refine AOps_q 20 _ rfl rfl rfl (QOp_assign _ _ rfl rfl) ?_
            refine AOps_nil ?_
            exact ⟨k0, _, _, Nat.lt_succ_self _, Weak_keep 0 hm [3, 4, 5, 6, 9, 10, 11, 20] [0, 1] _ _ rfl rfl rfl, _, rfl, rfl, h⟩
          · have h := iteF hb34 h
            refine ACode_exit ?_
            cases h
            exact ⟨_, rfl, Weak_keep 0 hm [3, 4, 5, 6] [0] _ _ rfl rfl rfl⟩
      · have h := iteF hb32 h
        refine ACode_skip ?_
        cases h
        exact ⟨_, rfl, Weak_keep 0 hm [3, 4, 5, 6] [0] _ _ rfl rfl rfl⟩
    rintro E' H' ⟨s46, rfl, hw⟩
    refine ACode_weak hw ?_
    have h := hks46
    refine ACode_seq ?_
    refine ACode_seq (ACode_region ?_)
    refine AOps_q 153 _ rfl rfl rfl (QOp_move _ _ rfl rfl) ?_
    refine AOps_q 154 _ rfl rfl rfl (QOp_neq _ _ _ _ _ _ _ rfl rfl rfl) ?_
    refine AOps_nil ?_
    refine ACode_cond _ rfl (fun hb47 => ?_) (fun hb47 => ?_)
    · have h := iteT hb47 h
      refine ACode_seq (ACode_region ?_)
      refine AOps_q 155 _ rfl rfl rfl (QOp_move _ _ rfl rfl) ?_
      refine AOps_q 156 _ rfl rfl rfl (QOp_len_sl _ _ _ _ _ _ _ (rowsD_length _) rfl rfl rfl rfl Try.underlying46 rfl) ?_
      refine AOps_q 157 _ rfl rfl rfl (QOp_eql _ _ _ _ _ _ _ rfl rfl rfl) ?_
      refine AOps_q 2 _ rfl rfl rfl (QOp_assign _ _ rfl rfl) ?_
      refine AOps_nil ?_
      refine ACode_ret ?_
      cases h
      exact ⟨_, _, fun r a w h => ⟨r, h⟩, _, _, [], _, (.cons (ResV_tmp _ _ rfl) .nil), rfl, rfl, rfl, rfl, rfl⟩
    · have h := iteF hb47 h
      refine ACode_skip ?_
      refine ACode_seq (ACode_region ?_)
      refine AOps_q 159 _ rfl rfl rfl (QOp_loadN_ptr _ _ _ _ _ _ _ rfl Try.isAgg26 Try.sizeOf26 rfl rfl (colD_all _) (colD_length _)) ?_
      obtain ⟨r48, hr48, h⟩ := bindO h
      refine AOps_call [] 160 _ _ _ _ _ _ _ _ _ _ rfl rfl rfl rfl rfl rfl rfl Try.call44 rfl (nodupB_sound _ rfl) rfl rfl rfl (AC_frz rfl (frz_cons frz_nil) (impl_ConnectedColours_ac k r3.1 _ hr48)) ?_
      rintro _ _ ⟨rfl, rfl⟩
      refine ⟨(fun _ h => nomatch h), (allc (trivial) (allc (trivial) (fun _ h => nomatch h))), AOps_as 160 (v' := .tup [.d (.sl none (intsD (r48.1.getD []))), iV r48.2]) (H' := [.box (colD r3.1)]) rfl rfl ?_⟩
      refine AOps_q 158 _ rfl rfl rfl (QOp_move _ _ rfl rfl) ?_
      refine AOps_q 161 _ rfl rfl rfl (QOp_extract _ _ _ _ rfl rfl rfl) ?_
      refine AOps_q 162 _ rfl rfl rfl (QOp_extract _ _ _ _ rfl rfl rfl) ?_
      refine AOps_q 24 _ rfl rfl rfl (QOp_assign _ _ rfl rfl) ?_
      refine AOps_q 25 _ rfl rfl rfl (QOp_assign _ _ rfl rfl) ?_
      refine AOps_nil ?_
      refine ACode_seq (ACode_region ?_)
      refine AOps_q 26 _ rfl rfl rfl (QOp_assign _ _ rfl rfl) ?_
      refine AOps_nil ?_
      obtain ⟨s53, hss53, hks53⟩ := bindO h
      clear h
      refine ACode_seqJ (fun E' H' => Weak 193 G E' H' [(3, .ptr 0 0), (4, iV r3.2), (5, .d (.sl none (rowsD (r4.1.getD [])))), (24, .d (.sl none (intsD (r48.1.getD [])))), (25, iV r48.2), (26, iV s53)] [.box (colD r3.1)]) ?_ ?_
      · have h := hss53
        clear hss53
        refine ACode_seq (ACode_region ?_)
        refine AOps_q 27 _ rfl rfl rfl (QOp_assign _ _ rfl rfl) ?_
        refine AOps_nil ?_
        refine ACode_block ?_
        refine ACode_loopW (fun k2 E H => ∃ (x49 : Int) (x50 : Int), E = [(3, .ptr 0 0), (4, iV r3.2), (5, .d (.sl none (rowsD (r4.1.getD [])))), (24, .d (.sl none (intsD (r48.1.getD [])))), (25, iV r48.2), (26, iV x49), (27, iV x50)] ∧ H = [.box (colD r3.1)] ∧ laws_FnParts_l2 r4 k2 x49 x50 = some s53) k _ _ (Weak_keep 0 hm [3, 4, 5, 24, 25, 26, 27] [0] _ _ rfl rfl rfl) ⟨_, _, rfl, rfl, h⟩ ?_
        clear h
        rintro k2 E H ⟨x49, x50, rfl, rfl, h⟩
        cases k2 with
        | zero => cases (show (none : Option (Int)) = some _ from h)
        | succ k2 =>
          rw [laws_FnParts_l2] at h
          refine ACode_seq ?_
          refine ACode_seq (ACode_region ?_)
          refine AOps_q 163 _ rfl rfl rfl (QOp_move _ _ rfl rfl) ?_
          refine AOps_q 164 _ rfl rfl rfl (QOp_move _ _ rfl rfl) ?_
          refine AOps_q 165 _ rfl rfl rfl (QOp_len_sl _ _ _ _ _ _ _ (rowsD_length _) rfl rfl rfl rfl Try.underlying46 rfl) ?_
          refine AOps_q 166 _ rfl rfl rfl (QOp_lss _ _ _ _ _ _ _ rfl rfl rfl) ?_
          refine AOps_nil ?_
          refine ACode_cond _ rfl (fun hb51 => ?_) (fun hb51 => ?_)
          · have h := iteT hb51 h
            refine ACode_skip ?_
            refine ACode_seq ?_
            refine ACode_block ?_
            refine (ACode_region ?_)
            refine AOps_q 169 _ rfl rfl rfl (QOp_move _ _ rfl rfl) ?_
            refine AOps_q 170 _ rfl rfl rfl (QOp_move _ _ rfl rfl) ?_
            refine AOps_q 171 _ rfl rfl rfl (QOp_move _ _ rfl rfl) ?_
            obtain ⟨hc52, h⟩ := guardO h
            refine AOps_q 172 _ rfl rfl rfl (QOp_indexAddr_sl _ _ _ _ _ _ _ _ rfl Try.underlying46 Try.sizeOf29 hc52.1 (by rw [rowsD_length]; exact hc52.2) rfl rfl) ?_
            refine AOps_q 173 _ rfl rfl rfl (QOp_load_pv _ _ _ _ _ rfl Try.isAgg29 rfl (rowsD_get _ _ [] (by omega))) ?_
            refine AOps_q 174 _ rfl rfl rfl (QOp_len_sl _ _ _ _ _ _ _ (intsD_length _) rfl rfl rfl rfl Try.underlying29 rfl) ?_
            refine AOps_q 175 _ rfl rfl rfl (QOp_add _ _ _ _ _ _ _ rfl rfl rfl) ?_
            refine AOps_q 26 _ rfl rfl rfl (QOp_assign _ _ rfl rfl) ?_
            refine AOps_nil ?_
            refine (ACode_region ?_)
            refine AOps_q 167 _ rfl rfl rfl (QOp_move _ _ rfl rfl) ?_
            refine AOps_q 168 _ rfl rfl rfl (QOp_add _ _ _ _ _ _ _ rfl rfl rfl) ?_
            refine AOps_q 27 _ rfl rfl rfl (QOp_assign _ _ rfl rfl) ?_
            refine AOps_nil ?_
            exact ⟨k2, _, _, Nat.lt_succ_self _, Weak_keep 0 hm [3, 4, 5, 24, 25, 26, 27] [0] _ _ rfl rfl rfl, _, _, rfl, rfl, h⟩
          · have h := iteF hb51 h
            refine ACode_exit ?_
            cases h
            exact Weak_keep 0 hm [3, 4, 5, 24, 25, 26] [0] _ _ rfl rfl rfl
      intro E' H' hw
      refine ACode_weak hw ?_
      have h := hks53
      obtain ⟨s57, hss57, hks57⟩ := bindO h
      clear h
      refine ACode_seqJ (fun E' H' => Weak 193 G E' H' [(2, bV s57)] []) ?_ ?_
      · have h := hss57
        clear hss57
        refine (ACode_region ?_)
        refine AOps_q 176 _ rfl rfl rfl (QOp_move _ _ rfl rfl) ?_
        refine AOps_q 177 _ rfl rfl rfl (QOp_fieldAddr_ptr _ _ _ _ _ _ 0 _ _ rfl Try.underlying26 rfl _ Try.sizeOf2 rfl rfl rfl rfl) ?_
        refine AOps_q 178 _ rfl rfl rfl (QOp_load_ptr _ _ _ _ _ _ rfl Try.isAgg2 rfl rfl rfl) ?_
        refine AOps_q 179 _ rfl rfl rfl (QOp_eql _ _ _ _ _ _ _ rfl rfl rfl) ?_
        refine AOps_q 180 _ rfl rfl rfl (QOp_move _ _ rfl rfl) ?_
        refine AOps_case 180 _ rfl (fun hb54 => ?_) (fun hb54 => ?_)
        · have h := iteT hb54 h
          refine AOps_q 181 _ rfl rfl rfl (QOp_move _ _ rfl rfl) ?_
          refine AOps_q 182 _ rfl rfl rfl (QOp_eql _ _ _ _ _ _ _ rfl rfl rfl) ?_
          refine AOps_q 183 _ rfl rfl rfl (QOp_pick_t _ _ _ _ rfl rfl rfl) ?_
          refine AOps_q 184 _ rfl rfl rfl (QOp_move _ _ rfl rfl) ?_
          refine AOps_case 184 _ rfl (fun hb55 => ?_) (fun hb55 => ?_)
          · have h := iteT hb55 h
            refine AOps_q 185 _ rfl rfl rfl (QOp_move _ _ rfl rfl) ?_
            refine AOps_q 186 _ rfl rfl rfl (QOp_move _ _ rfl rfl) ?_
            obtain ⟨r56, hr56, h⟩ := bindO h
            refine AOps_call [] 187 _ _ _ _ _ _ _ _ _ _ rfl rfl rfl rfl rfl rfl rfl Try.call46 rfl (nodupB_sound _ rfl) rfl rfl rfl (laws_hasInt_ac k (r48.1.getD []) r3.2 _ hr56) ?_
            rintro _ _ ⟨rfl, rfl⟩
            refine ⟨(fun _ h => nomatch h), (allc (trivial) (fun _ h => nomatch h)), AOps_as 187 (v' := bV r56) (H' := [.box (colD r3.1)]) rfl rfl ?_⟩
            refine AOps_q 188 _ rfl rfl rfl (QOp_move _ _ rfl rfl) ?_
            refine AOps_q 189 _ rfl rfl rfl (QOp_len_sl _ _ _ _ _ _ _ (rowsD_length _) rfl rfl rfl rfl Try.underlying46 rfl) ?_
            refine AOps_q 190 _ rfl rfl rfl (QOp_eql _ _ _ _ _ _ _ rfl rfl rfl) ?_
            refine AOps_q 191 _ rfl rfl rfl (QOp_beq _ _ _ _ _ _ rfl rfl rfl Try.underlying4) ?_
            refine AOps_q 192 _ rfl rfl rfl (QOp_pick_t _ _ _ _ rfl rfl rfl) ?_
            refine AOps_q 2 _ rfl rfl rfl (QOp_assign _ _ rfl rfl) ?_
            refine AOps_nil ?_
            cases h
            exact Weak_keep 0 hm [2] [] _ _ rfl rfl rfl
          · have h := iteF hb55 h
            refine AOps_skip 185 rfl rfl rfl ?_
            refine AOps_skip 186 rfl rfl rfl ?_
            refine AOps_skip 187 rfl rfl rfl ?_
            refine AOps_skip 188 rfl rfl rfl ?_
            refine AOps_skip 189 rfl rfl rfl ?_
            refine AOps_skip 190 rfl rfl rfl ?_
            refine AOps_skip 191 rfl rfl rfl ?_
            refine AOps_q 192 _ rfl rfl rfl (QOp_pick_f _ _ _ _ rfl rfl rfl) ?_
            refine AOps_q 2 _ rfl rfl rfl (QOp_assign _ _ rfl rfl) ?_
            refine AOps_nil ?_
            cases h
            exact Weak_keep 0 hm [2] [] _ _ rfl rfl rfl
        · have h := iteF hb54 h
          refine AOps_skip 181 rfl rfl rfl ?_
          refine AOps_skip 182 rfl rfl rfl ?_
          refine AOps_q 183 _ rfl rfl rfl (QOp_pick_f _ _ _ _ rfl rfl rfl) ?_
          refine AOps_q 184 _ rfl rfl rfl (QOp_move _ _ rfl rfl) ?_
          refine AOps_skip 185 rfl rfl rfl ?_
          refine AOps_skip 186 rfl rfl rfl ?_
          refine AOps_skip 187 rfl rfl rfl ?_
          refine AOps_skip 188 rfl rfl rfl ?_
          refine AOps_skip 189 rfl rfl rfl ?_
          refine AOps_skip 190 rfl rfl rfl ?_
          refine AOps_skip 191 rfl rfl rfl ?_
          refine AOps_q 192 _ rfl rfl rfl (QOp_pick_f _ _ _ _ rfl rfl rfl) ?_
          refine AOps_q 2 _ rfl rfl rfl (QOp_assign _ _ rfl rfl) ?_
          refine AOps_nil ?_
          cases h
          exact Weak_keep 0 hm [2] [] _ _ rfl rfl rfl
      intro E' H' hw
      refine ACode_weak hw ?_
      have h := hks57
      refine ACode_ret ?_
      cases h
      exact ⟨_, _, fun r a w h => ⟨r, h⟩, _, _, [], _, (.cons (ResV_tmp _ _ rfl) .nil), rfl, rfl, rfl, rfl, rfl⟩

end Go.Proofs.Ytfpcopidcagdaaa
