/- Plain functions of the program and that the program computes them: printed by the own tool gen.py. No conditions. -/
import Derived.Test.YtmmiokljmfkoiaaDoorNumV
import Derived.Test.YtmmiokljmfkoiaaDoorAb18
import Derived.Test.YtmmiokljmfkoiaaDoorProg
import Derived.KernelRfl
set_option linter.unusedVariables false
set_option linter.unusedSimpArgs false
namespace Go.Proofs.YtmmiokljmfkoiaaDoor
open Go Go.RowKit Ab

theorem mixed : Tryd.prog.follows .mixedOrders = true := by kernel_rfl

-- loop.example/g01362/spec.l01Split
def spec_l01Split_l0 (p0 : ByteArray) (p1 : UInt8) : Nat → Int → Int → (List ByteArray) → Option (Int × List ByteArray)
  | 0, _, _, _ => none
  | k0 + 1, x1, x2, x3 => (if decide (x2 < (p0.size : Int)) then ((if 0 ≤ x2 ∧ x2 < ((p0 : ByteArray).size : Int) then (if decide ((((p0 : ByteArray).data.toList.getD x2.toNat 0).toNat : Int) = (p1.toNat : Int)) then (if 0 ≤ x1 ∧ x1 ≤ x2 ∧ x2 ≤ ((p0 : ByteArray).size : Int) then (if x3.length + ([((p0 : ByteArray).extract (x1.toNat) (x2.toNat))]).length ≤ 1099511627776 then some (w64 (x2 + 1), (x3 ++ ([((p0 : ByteArray).extract (x1.toNat) (x2.toNat))]))) else none) else none) else some (x1, x3)) else none) : Option (Int × List ByteArray)).bind fun s9 => spec_l01Split_l0 p0 p1 k0 s9.1 (w64 (x2 + 1)) s9.2 else some (x1, x3))
def spec_l01Split (k : Nat) (p0 : ByteArray) (p1 : UInt8) : Option (List ByteArray) :=
  (spec_l01Split_l0 p0 p1 k 0 0 ([] : List ByteArray) : Option (Int × List ByteArray)).bind fun s10 => (if 0 ≤ s10.1 ∧ s10.1 ≤ ((p0 : ByteArray).size : Int) ∧ ((p0 : ByteArray).size : Int) ≤ ((p0 : ByteArray).size : Int) then (if s10.2.length + ([((p0 : ByteArray).extract (s10.1.toNat) ((p0 : ByteArray).size))]).length ≤ 1099511627776 then some (s10.2 ++ ([((p0 : ByteArray).extract (s10.1.toNat) ((p0 : ByteArray).size))])) else none) else none)
set_option maxRecDepth 100000 in
theorem spec_l01Split_ac (k : Nat) (p0 : ByteArray) (p1 : UInt8) (r : List ByteArray) (h : spec_l01Split k p0 p1 = some r) : AC Tryd.prog 44 [.d (.s (.string p0)), .d (uD p1)] [] (fun res H' => res = [.vec 0 0] ∧ H' = [.vec 0 (stsD r)]) := by
  refine AC_of_body true Tryd.func44 rfl Tryd.ntmps44 (rvs := [.tmp 4]) rfl rfl (fun G hG => ?_)
  have hm : G.H.length = 0 := by rw [hG]; rfl
  have hz : zeroG G.H = true := by rw [hG]; rfl
  unfold spec_l01Split at h
  refine ACode_seq (ACode_region ?_)
  refine AOps_q 4 _ rfl rfl rfl (QOp_assign _ _ rfl rfl) ?_
  refine AOps_nil ?_
  refine ACode_seq (ACode_region ?_)
  refine AOps_buildSlice 8 _ _ _ [] (stsD ([] : List ByteArray)) _ rfl rfl rfl rfl rfl (by decide) Tryd.underlying60 Tryd.sizeOf9 (zero_of Tryd.typeInfo9 rfl) rfl rfl (stsD_one _) ?_
  refine AOps_q 5 _ rfl rfl rfl (QOp_assign _ _ rfl rfl) ?_
  refine AOps_nil ?_
  refine ACode_seq (ACode_region ?_)
  refine AOps_q 6 _ rfl rfl rfl (QOp_assign _ _ rfl rfl) ?_
  refine AOps_nil ?_
  obtain ⟨s10, hss10, hks10⟩ := bindO h
  clear h
  refine ACode_seqJ (fun E' H' => Weak 35 G E' H' [(0, .d (.s (.string p0))), (5, .vec 0 0), (6, iV s10.1)] [.vec 0 (stsD s10.2)]) ?_ ?_
  · have h := hss10
    clear hss10
    refine ACode_seq (ACode_region ?_)
    refine AOps_q 7 _ rfl rfl rfl (QOp_assign _ _ rfl rfl) ?_
    refine AOps_nil ?_
    refine ACode_block ?_
    refine ACode_loopW (fun k0 E H => ∃ (x1 : Int) (x2 : Int) (x3 : List ByteArray), E = [(0, .d (.s (.string p0))), (1, .d (uD p1)), (5, .vec 0 0), (6, iV x1), (7, iV x2)] ∧ H = [.vec 0 (stsD x3)] ∧ spec_l01Split_l0 p0 p1 k0 x1 x2 x3 = some s10) k _ _ (Weak_keep 0 hm [0, 1, 5, 6, 7] [0] _ _ rfl rfl rfl) ⟨_, _, _, rfl, rfl, h⟩ ?_
    clear h
    rintro k0 E H ⟨x1, x2, x3, rfl, rfl, h⟩
    cases k0 with
    | zero => cases (show (none : Option (Int × List ByteArray)) = some _ from h)
    | succ k0 =>
      rw [spec_l01Split_l0] at h
      refine ACode_seq ?_
      refine ACode_seq (ACode_region ?_)
      refine AOps_q 9 _ rfl rfl rfl (QOp_move _ _ rfl rfl) ?_
      refine AOps_q 10 _ rfl rfl rfl (QOp_move _ _ rfl rfl) ?_
      refine AOps_q 11 _ rfl rfl rfl (QOp_len_str _ _ _ _ rfl rfl rfl rfl Tryd.underlying9 rfl) ?_
      refine AOps_q 12 _ rfl rfl rfl (QOp_lss _ _ _ _ _ _ _ rfl rfl rfl) ?_
      refine AOps_nil ?_
      refine ACode_cond _ rfl (fun hb4 => ?_) (fun hb4 => ?_)
      · have h := iteT hb4 h
        refine ACode_skip ?_
        obtain ⟨s9, hss9, hks9⟩ := bindO h
        clear h
        refine ACode_seqJ (fun E' H' => Weak 35 G E' H' [(0, .d (.s (.string p0))), (1, .d (uD p1)), (5, .vec 0 0), (6, iV s9.1), (7, iV x2)] [.vec 0 (stsD s9.2)]) ?_ ?_
        · have h := hss9
          clear hss9
          refine ACode_block ?_
          refine ACode_seq (ACode_region ?_)
          refine AOps_q 15 _ rfl rfl rfl (QOp_move _ _ rfl rfl) ?_
          refine AOps_q 16 _ rfl rfl rfl (QOp_move _ _ rfl rfl) ?_
          obtain ⟨hc5, h⟩ := guardO h
          refine AOps_q 17 _ rfl rfl rfl (QOp_sindex _ _ _ _ _ _ rfl Tryd.underlying9 hc5.1 hc5.2 rfl rfl) ?_
          refine AOps_q 18 _ rfl rfl rfl (QOp_move _ _ rfl rfl) ?_
          refine AOps_q 19 _ rfl rfl rfl (QOp_eql _ _ _ _ _ _ _ rfl rfl rfl) ?_
          refine AOps_nil ?_
          refine ACode_cond _ rfl (fun hb6 => ?_) (fun hb6 => ?_)
          · have h := iteT hb6 h
            refine ACode_seq (ACode_region ?_)
            refine AOps_q 20 _ rfl rfl rfl (QOp_move _ _ rfl rfl) ?_
            refine AOps_q 21 _ rfl rfl rfl (QOp_move _ _ rfl rfl) ?_
            refine AOps_q 22 _ rfl rfl rfl (QOp_move _ _ rfl rfl) ?_
            refine AOps_q 23 _ rfl rfl rfl (QOp_move _ _ rfl rfl) ?_
            obtain ⟨hc7, h⟩ := guardO h
            refine AOps_q 24 _ rfl rfl rfl (QOp_sslice _ _ _ _ _ (x1.toNat) (x2.toNat) rfl Tryd.underlying9 rfl ⟨_, by rw [Int.toNat_of_nonneg (by omega)]; rfl⟩ ⟨_, by rw [Int.toNat_of_nonneg (by omega)]; rfl⟩ (Int.toNat_le_toNat hc7.2.1) (Int.toNat_le.2 hc7.2.2)) ?_
            refine AOps_buildSlice 25 _ _ _ [_] (stsD ([((p0 : ByteArray).extract (x1.toNat) (x2.toNat))])) _ rfl rfl rfl rfl rfl (by decide) Tryd.underlying60 Tryd.sizeOf9 (zero_of Tryd.typeInfo9 rfl) rfl rfl (stsD_one _) ?_
            obtain ⟨hc8, h⟩ := guardO h
            refine AOps_append 26 _ _ _ _ _ _ _ _ _ _ _ _ rfl rfl rfl rfl rfl rfl rfl Tryd.underlying60 Tryd.type9 rfl rfl rfl (by decide) rfl rfl rfl rfl (stsD_one _) (by rw [stsD_length, stsD_length]; exact hc8) ?_
            rw [stsD_app]
            refine AOps_q 5 _ rfl rfl rfl (QOp_assign _ _ rfl rfl) ?_
            refine AOps_nil ?_
            refine (ACode_region ?_)
            refine AOps_q 27 _ rfl rfl rfl (QOp_move _ _ rfl rfl) ?_
            refine AOps_q 28 _ rfl rfl rfl (QOp_add _ _ _ _ _ _ _ rfl rfl rfl) ?_
            refine AOps_q 6 _ rfl rfl rfl (QOp_assign _ _ rfl rfl) ?_
            refine AOps_nil ?_
            cases h
            exact Weak_trans (Weak_keep 0 hm [0, 1, 5, 6, 7] [0] _ _ rfl rfl rfl) (Weak_reset 0 hm hz [0, 1, 5, 6, 7] _ _ rfl rfl)
          · have h := iteF hb6 h
            refine ACode_skip ?_
            cases h
            exact Weak_keep 0 hm [0, 1, 5, 6, 7] [0] _ _ rfl rfl rfl
        intro E' H' hw
        refine ACode_weak hw ?_
        have h := hks9
        refine (ACode_region ?_)
        refine AOps_q 13 _ rfl rfl rfl (QOp_move _ _ rfl rfl) ?_
        refine AOps_q 14 _ rfl rfl rfl (QOp_add _ _ _ _ _ _ _ rfl rfl rfl) ?_
        refine AOps_q 7 _ rfl rfl rfl (QOp_assign _ _ rfl rfl) ?_
        refine AOps_nil ?_
        exact ⟨k0, _, _, Nat.lt_succ_self _, Weak_keep 0 hm [0, 1, 5, 6, 7] [0] _ _ rfl rfl rfl, _, _, _, rfl, rfl, h⟩
      · have h := iteF hb4 h
        refine ACode_exit ?_
        cases h
        exact Weak_keep 0 hm [0, 5, 6] [0] _ _ rfl rfl rfl
  intro E' H' hw
  refine ACode_weak hw ?_
  have h := hks10
  refine ACode_seq (ACode_region ?_)
  refine AOps_q 29 _ rfl rfl rfl (QOp_move _ _ rfl rfl) ?_
  refine AOps_q 30 _ rfl rfl rfl (QOp_move _ _ rfl rfl) ?_
  refine AOps_q 31 _ rfl rfl rfl (QOp_move _ _ rfl rfl) ?_
  obtain ⟨hc11, h⟩ := guardO h
  refine AOps_q 32 _ rfl rfl rfl (QOp_sslice _ _ _ _ _ (s10.1.toNat) ((p0 : ByteArray).size) rfl Tryd.underlying9 rfl ⟨_, by rw [Int.toNat_of_nonneg (by omega)]; rfl⟩ rfl (Int.toNat_le.2 hc11.2.1) (Nat.le_refl _)) ?_
  refine AOps_buildSlice 33 _ _ _ [_] (stsD ([((p0 : ByteArray).extract (s10.1.toNat) ((p0 : ByteArray).size))])) _ rfl rfl rfl rfl rfl (by decide) Tryd.underlying60 Tryd.sizeOf9 (zero_of Tryd.typeInfo9 rfl) rfl rfl (stsD_one _) ?_
  obtain ⟨hc12, h⟩ := guardO h
  refine AOps_append 34 _ _ _ _ _ _ _ _ _ _ _ _ rfl rfl rfl rfl rfl rfl rfl Tryd.underlying60 Tryd.type9 rfl rfl rfl (by decide) rfl rfl rfl rfl (stsD_one _) (by rw [stsD_length, stsD_length]; exact hc12) ?_
  rw [stsD_app]
  refine AOps_q 4 _ rfl rfl rfl (QOp_assign _ _ rfl rfl) ?_
  refine AOps_nil ?_
  refine ACode_ret ?_
  cases h
  exact ⟨_, _, Weak_reset 0 hm hz [4] _ _ rfl rfl, _, _, [0], _, (.cons (ResV_tmp _ _ rfl) .nil), rfl, rfl, rfl, rfl, rfl⟩

-- loop.example/g01362/spec.l01Number
def spec_l01Number_l0 (p0 : ByteArray) : Nat → Int → Int → Option (Sum (Int) (Int))
  | 0, _, _ => none
  | k0 + 1, x8, x9 => (if decide (x9 < (p0.size : Int)) then ((((if 0 ≤ x9 ∧ x9 < ((p0 : ByteArray).size : Int) then (if decide ((((p0 : ByteArray).data.toList.getD x9.toNat 0).toNat : Int) < 48) then some true else (if 0 ≤ x9 ∧ x9 < ((p0 : ByteArray).size : Int) then some (decide (57 < (((p0 : ByteArray).data.toList.getD x9.toNat 0).toNat : Int))) else none)) else none) : Option (Bool)).bind fun s14 => (if s14 then ((some (.inr (-1))).bind fun rr => some (.inr rr)).bind fun rr => some (.inr rr) else some (.inl ())) : Option (Sum (Unit) (Sum (Unit) (Sum (Int) (Int))))).bind fun os16 => (match os16 with | .inl s16 => (if 0 ≤ x9 ∧ x9 < ((p0 : ByteArray).size : Int) then some (.inl ()) else none) | .inr rr => some rr) : Option (Sum (Unit) (Sum (Int) (Int)))).bind fun os18 => (match os18 with | .inl s18 => spec_l01Number_l0 p0 k0 (w64 ((w64 (x8 * 10)) + (w64 (IntKind.u8.wrap ((((p0 : ByteArray).data.toList.getD x9.toNat 0).toNat : Int) - 48))))) (w64 (x9 + 1)) | .inr rr => some rr) else some (.inl x8))
def spec_l01Number (k : Nat) (p0 : ByteArray) : Option (Int) :=
  (((if decide ((p0.size : Int) = 0) then some true else (if decide (9 < (p0.size : Int)) then some true else (if decide (1 < (p0.size : Int)) then (if 0 ≤ (0 : Int) ∧ 0 < ((p0 : ByteArray).size : Int) then some (decide ((((p0 : ByteArray).data.toList.getD (0 : Int).toNat 0).toNat : Int) = 48)) else none) else some false))) : Option (Bool)).bind fun s5 => (if s5 then some (.inr (-1)) else some (.inl ())) : Option (Sum (Unit) (Int))).bind fun os7 => (match os7 with | .inl s7 => (spec_l01Number_l0 p0 k 0 0 : Option (Sum (Int) (Int))).bind fun os19 => (match os19 with | .inl s19 => some s19 | .inr rr => some rr) | .inr rr => some rr)
set_option maxRecDepth 100000 in
theorem spec_l01Number_ac (k : Nat) (p0 : ByteArray) (r : Int) (h : spec_l01Number k p0 = some r) : AC Tryd.prog 45 [.d (.s (.string p0))] [] (fun res H' => res = [iV r] ∧ H' = []) := by
  refine AC_of_body true Tryd.func45 rfl Tryd.ntmps45 (rvs := [.tmp 2]) rfl rfl (fun G hG => ?_)
  have hm : G.H.length = 0 := by rw [hG]; rfl
  have hz : zeroG G.H = true := by rw [hG]; rfl
  unfold spec_l01Number at h
  refine ACode_seq (ACode_region ?_)
  refine AOps_q 2 _ rfl rfl rfl (QOp_assign _ _ rfl rfl) ?_
  refine AOps_nil ?_
  obtain ⟨os7, hss7, hks7⟩ := bindO h
  clear h
  refine ACode_seqJ (fun E' H' => ∃ s7 : Unit, os7 = .inl s7 ∧ Weak 48 G E' H' [(0, .d (.s (.string p0)))] []) ?_ ?_
  · have h := hss7
    clear hss7
    obtain ⟨s5, hss5, hks5⟩ := bindO h
    clear h
    refine ACode_seqJ (fun E' H' => Weak 48 G E' H' [(0, .d (.s (.string p0))), (22, bV s5)] []) ?_ ?_
    · have h := hss5
      clear hss5
      refine (ACode_region ?_)
      refine AOps_q 5 _ rfl rfl rfl (QOp_move _ _ rfl rfl) ?_
      refine AOps_q 6 _ rfl rfl rfl (QOp_len_str _ _ _ _ rfl rfl rfl rfl Tryd.underlying9 rfl) ?_
      refine AOps_q 7 _ rfl rfl rfl (QOp_eql _ _ _ _ _ _ _ rfl rfl rfl) ?_
      refine AOps_q 8 _ rfl rfl rfl (QOp_move _ _ rfl rfl) ?_
      refine AOps_case 8 _ rfl (fun hb1 => ?_) (fun hb1 => ?_)
      · have h := iteT hb1 h
        refine AOps_skip 9 rfl rfl rfl ?_
        refine AOps_skip 10 rfl rfl rfl ?_
        refine AOps_skip 11 rfl rfl rfl ?_
        refine AOps_q 12 _ rfl rfl rfl (QOp_pick_t _ _ _ _ rfl rfl rfl) ?_
        refine AOps_q 13 _ rfl rfl rfl (QOp_move _ _ rfl rfl) ?_
        refine AOps_skip 14 rfl rfl rfl ?_
        refine AOps_skip 15 rfl rfl rfl ?_
        refine AOps_skip 16 rfl rfl rfl ?_
        refine AOps_skip 17 rfl rfl rfl ?_
        refine AOps_skip 18 rfl rfl rfl ?_
        refine AOps_skip 19 rfl rfl rfl ?_
        refine AOps_skip 20 rfl rfl rfl ?_
        refine AOps_skip 21 rfl rfl rfl ?_
        refine AOps_q 22 _ rfl rfl rfl (QOp_pick_t _ _ _ _ rfl rfl rfl) ?_
        refine AOps_nil ?_
        cases h
        exact Weak_keep 0 hm [0, 22] [] _ _ rfl rfl rfl
      · have h := iteF hb1 h
        refine AOps_q 9 _ rfl rfl rfl (QOp_move _ _ rfl rfl) ?_
        refine AOps_q 10 _ rfl rfl rfl (QOp_len_str _ _ _ _ rfl rfl rfl rfl Tryd.underlying9 rfl) ?_
        refine AOps_q 11 _ rfl rfl rfl (QOp_gtr _ _ _ _ _ _ _ rfl rfl rfl) ?_
        refine AOps_q 12 _ rfl rfl rfl (QOp_pick_f _ _ _ _ rfl rfl rfl) ?_
        refine AOps_q 13 _ rfl rfl rfl (QOp_move _ _ rfl rfl) ?_
        refine AOps_case 13 _ rfl (fun hb2 => ?_) (fun hb2 => ?_)
        · have h := iteT hb2 h
          refine AOps_skip 14 rfl rfl rfl ?_
          refine AOps_skip 15 rfl rfl rfl ?_
          refine AOps_skip 16 rfl rfl rfl ?_
          refine AOps_skip 17 rfl rfl rfl ?_
          refine AOps_skip 18 rfl rfl rfl ?_
          refine AOps_skip 19 rfl rfl rfl ?_
          refine AOps_skip 20 rfl rfl rfl ?_
          refine AOps_skip 21 rfl rfl rfl ?_
          refine AOps_q 22 _ rfl rfl rfl (QOp_pick_t _ _ _ _ rfl rfl rfl) ?_
          refine AOps_nil ?_
          cases h
          exact Weak_keep 0 hm [0, 22] [] _ _ rfl rfl rfl
        · have h := iteF hb2 h
          refine AOps_q 14 _ rfl rfl rfl (QOp_move _ _ rfl rfl) ?_
          refine AOps_q 15 _ rfl rfl rfl (QOp_len_str _ _ _ _ rfl rfl rfl rfl Tryd.underlying9 rfl) ?_
          refine AOps_q 16 _ rfl rfl rfl (QOp_gtr _ _ _ _ _ _ _ rfl rfl rfl) ?_
          refine AOps_q 17 _ rfl rfl rfl (QOp_move _ _ rfl rfl) ?_
          refine AOps_case 17 _ rfl (fun hb3 => ?_) (fun hb3 => ?_)
          · have h := iteT hb3 h
            refine AOps_q 18 _ rfl rfl rfl (QOp_move _ _ rfl rfl) ?_
            obtain ⟨hc4, h⟩ := guardO h
            refine AOps_q 19 _ rfl rfl rfl (QOp_sindex _ _ _ _ _ _ rfl Tryd.underlying9 hc4.1 hc4.2 rfl rfl) ?_
            refine AOps_q 20 _ rfl rfl rfl (QOp_eql _ _ _ _ _ _ _ rfl rfl rfl) ?_
            refine AOps_q 21 _ rfl rfl rfl (QOp_pick_t _ _ _ _ rfl rfl rfl) ?_
            refine AOps_q 22 _ rfl rfl rfl (QOp_pick_f _ _ _ _ rfl rfl rfl) ?_
            refine AOps_nil ?_
            cases h
            exact Weak_keep 0 hm [0, 22] [] _ _ rfl rfl rfl
          · have h := iteF hb3 h
            refine AOps_skip 18 rfl rfl rfl ?_
            refine AOps_skip 19 rfl rfl rfl ?_
            refine AOps_skip 20 rfl rfl rfl ?_
            refine AOps_q 21 _ rfl rfl rfl (QOp_pick_f _ _ _ _ rfl rfl rfl) ?_
            refine AOps_q 22 _ rfl rfl rfl (QOp_pick_f _ _ _ _ rfl rfl rfl) ?_
            refine AOps_nil ?_
            cases h
            exact Weak_keep 0 hm [0, 22] [] _ _ rfl rfl rfl
    intro E' H' hw
    refine ACode_weak hw ?_
    have h := hks5
    refine ACode_cond _ rfl (fun hb6 => ?_) (fun hb6 => ?_)
    · have h := iteT hb6 h
      refine ACode_seq (ACode_region ?_)
      refine AOps_q 2 _ rfl rfl rfl (QOp_assign _ _ rfl rfl) ?_
      refine AOps_nil ?_
      refine ACode_ret ?_
      cases h
      have h := hks7
      cases h
      exact ⟨_, _, fun r a w h => ⟨r, h⟩, _, _, [], _, (.cons (ResV_tmp _ _ rfl) .nil), rfl, rfl, rfl, rfl, rfl⟩
    · have h := iteF hb6 h
      refine ACode_skip ?_
      cases h
      exact ⟨_, rfl, Weak_keep 0 hm [0] [] _ _ rfl rfl rfl⟩
  rintro E' H' ⟨s7, rfl, hw⟩
  refine ACode_weak hw ?_
  have h := hks7
  refine ACode_seq (ACode_region ?_)
  refine AOps_q 3 _ rfl rfl rfl (QOp_assign _ _ rfl rfl) ?_
  refine AOps_nil ?_
  obtain ⟨os19, hss19, hks19⟩ := bindO h
  clear h
  refine ACode_seqJ (fun E' H' => ∃ s19 : Int, os19 = .inl s19 ∧ Weak 48 G E' H' [(3, iV s19)] []) ?_ ?_
  · have h := hss19
    clear hss19
    refine ACode_seq (ACode_region ?_)
    refine AOps_q 4 _ rfl rfl rfl (QOp_assign _ _ rfl rfl) ?_
    refine AOps_nil ?_
    refine ACode_block ?_
    refine ACode_loopW (fun k0 E H => ∃ (x8 : Int) (x9 : Int), E = [(0, .d (.s (.string p0))), (3, iV x8), (4, iV x9)] ∧ H = [] ∧ spec_l01Number_l0 p0 k0 x8 x9 = some os19) k _ _ (Weak_keep 0 hm [0, 3, 4] [] _ _ rfl rfl rfl) ⟨_, _, rfl, rfl, h⟩ ?_
    clear h
    rintro k0 E H ⟨x8, x9, rfl, rfl, h⟩
    cases k0 with
    | zero => cases (show (none : Option (Sum (Int) (Int))) = some _ from h)
    | succ k0 =>
      rw [spec_l01Number_l0] at h
      refine ACode_seq ?_
      refine ACode_seq (ACode_region ?_)
      refine AOps_q 23 _ rfl rfl rfl (QOp_move _ _ rfl rfl) ?_
      refine AOps_q 24 _ rfl rfl rfl (QOp_move _ _ rfl rfl) ?_
      refine AOps_q 25 _ rfl rfl rfl (QOp_len_str _ _ _ _ rfl rfl rfl rfl Tryd.underlying9 rfl) ?_
      refine AOps_q 26 _ rfl rfl rfl (QOp_lss _ _ _ _ _ _ _ rfl rfl rfl) ?_
      refine AOps_nil ?_
      refine ACode_cond _ rfl (fun hb10 => ?_) (fun hb10 => ?_)
      · have h := iteT hb10 h
        refine ACode_skip ?_
        obtain ⟨os18, hss18, hks18⟩ := bindO h
        clear h
        refine ACode_seqJ (fun E' H' => ∃ s18 : Unit, os18 = .inl s18 ∧ Weak 48 G E' H' [(0, .d (.s (.string p0))), (3, iV (w64 ((w64 (x8 * 10)) + (w64 (IntKind.u8.wrap ((((p0 : ByteArray).data.toList.getD x9.toNat 0).toNat : Int) - 48)))))), (4, iV x9)] []) ?_ ?_
        · have h := hss18
          clear hss18
          refine ACode_block ?_
          obtain ⟨os16, hss16, hks16⟩ := bindO h
          clear h
          refine ACode_seqJ (fun E' H' => ∃ s16 : Unit, os16 = .inl s16 ∧ Weak 48 G E' H' [(0, .d (.s (.string p0))), (3, iV x8), (4, iV x9)] []) ?_ ?_
          · have h := hss16
            clear hss16
            obtain ⟨s14, hss14, hks14⟩ := bindO h
            clear h
            refine ACode_seqJ (fun E' H' => Weak 48 G E' H' [(0, .d (.s (.string p0))), (3, iV x8), (4, iV x9), (38, bV s14)] []) ?_ ?_
            · have h := hss14
              clear hss14
              refine (ACode_region ?_)
              refine AOps_q 29 _ rfl rfl rfl (QOp_move _ _ rfl rfl) ?_
              refine AOps_q 30 _ rfl rfl rfl (QOp_move _ _ rfl rfl) ?_
              obtain ⟨hc11, h⟩ := guardO h
              refine AOps_q 31 _ rfl rfl rfl (QOp_sindex _ _ _ _ _ _ rfl Tryd.underlying9 hc11.1 hc11.2 rfl rfl) ?_
              refine AOps_q 32 _ rfl rfl rfl (QOp_lss _ _ _ _ _ _ _ rfl rfl rfl) ?_
              refine AOps_q 33 _ rfl rfl rfl (QOp_move _ _ rfl rfl) ?_
              refine AOps_case 33 _ rfl (fun hb12 => ?_) (fun hb12 => ?_)
              · have h := iteT hb12 h
                refine AOps_skip 34 rfl rfl rfl ?_
                refine AOps_skip 35 rfl rfl rfl ?_
                refine AOps_skip 36 rfl rfl rfl ?_
                refine AOps_skip 37 rfl rfl rfl ?_
                refine AOps_q 38 _ rfl rfl rfl (QOp_pick_t _ _ _ _ rfl rfl rfl) ?_
                refine AOps_nil ?_
                cases h
                exact Weak_keep 0 hm [0, 3, 4, 38] [] _ _ rfl rfl rfl
              · have h := iteF hb12 h
                refine AOps_q 34 _ rfl rfl rfl (QOp_move _ _ rfl rfl) ?_
                refine AOps_q 35 _ rfl rfl rfl (QOp_move _ _ rfl rfl) ?_
                obtain ⟨hc13, h⟩ := guardO h
                refine AOps_q 36 _ rfl rfl rfl (QOp_sindex _ _ _ _ _ _ rfl Tryd.underlying9 hc13.1 hc13.2 rfl rfl) ?_
                refine AOps_q 37 _ rfl rfl rfl (QOp_gtr _ _ _ _ _ _ _ rfl rfl rfl) ?_
                refine AOps_q 38 _ rfl rfl rfl (QOp_pick_f _ _ _ _ rfl rfl rfl) ?_
                refine AOps_nil ?_
                cases h
                exact Weak_keep 0 hm [0, 3, 4, 38] [] _ _ rfl rfl rfl
            intro E' H' hw
            refine ACode_weak hw ?_
            have h := hks14
            refine ACode_cond _ rfl (fun hb15 => ?_) (fun hb15 => ?_)
            · have h := iteT hb15 h
              refine ACode_seq (ACode_region ?_)
              refine AOps_q 2 _ rfl rfl rfl (QOp_assign _ _ rfl rfl) ?_
              refine AOps_nil ?_
              refine ACode_ret ?_
              obtain ⟨rr, hz21, h2⟩ := bindO h
              obtain rfl := Option.some.inj h2
              obtain rfl := Option.some.inj (show some rr = some _ from hks16)
              have h := hz21
              obtain ⟨rr, hz20, h2⟩ := bindO h
              obtain rfl := Option.some.inj h2
              obtain rfl := Option.some.inj (show some rr = some _ from hks18)
              have h := hz20
              cases h
              have h := hks19
              cases h
              exact ⟨_, _, fun r a w h => ⟨r, h⟩, _, _, [], _, (.cons (ResV_tmp _ _ rfl) .nil), rfl, rfl, rfl, rfl, rfl⟩
            · have h := iteF hb15 h
              refine ACode_skip ?_
              cases h
              exact ⟨_, rfl, Weak_keep 0 hm [0, 3, 4] [] _ _ rfl rfl rfl⟩
          rintro E' H' ⟨s16, rfl, hw⟩
          refine ACode_weak hw ?_
          have h := hks16
          refine (ACode_region ?_)
          refine AOps_q 39 _ rfl rfl rfl (QOp_move _ _ rfl rfl) ?_
          refine AOps_q 40 _ rfl rfl rfl (QOp_mul _ _ _ _ _ _ _ rfl rfl rfl) ?_
          refine AOps_q 41 _ rfl rfl rfl (QOp_move _ _ rfl rfl) ?_
          refine AOps_q 42 _ rfl rfl rfl (QOp_move _ _ rfl rfl) ?_
          obtain ⟨hc17, h⟩ := guardO h
          refine AOps_q 43 _ rfl rfl rfl (QOp_sindex _ _ _ _ _ _ rfl Tryd.underlying9 hc17.1 hc17.2 rfl rfl) ?_
          refine AOps_q 44 _ rfl rfl rfl (QOp_sub _ _ _ _ _ _ _ rfl rfl rfl) ?_
          refine AOps_q 45 _ rfl rfl rfl (QOp_conv _ _ _ _ _ _ rfl rfl Tryd.underlying2 rfl) ?_
          refine AOps_q 46 _ rfl rfl rfl (QOp_add _ _ _ _ _ _ _ rfl rfl rfl) ?_
          refine AOps_q 3 _ rfl rfl rfl (QOp_assign _ _ rfl rfl) ?_
          refine AOps_nil ?_
          cases h
          exact ⟨_, rfl, Weak_keep 0 hm [0, 3, 4] [] _ _ rfl rfl rfl⟩
        rintro E' H' ⟨s18, rfl, hw⟩
        refine ACode_weak hw ?_
        have h := hks18
        refine (ACode_region ?_)
        refine AOps_q 27 _ rfl rfl rfl (QOp_move _ _ rfl rfl) ?_
        refine AOps_q 28 _ rfl rfl rfl (QOp_add _ _ _ _ _ _ _ rfl rfl rfl) ?_
        refine AOps_q 4 _ rfl rfl rfl (QOp_assign _ _ rfl rfl) ?_
        refine AOps_nil ?_
        exact ⟨k0, _, _, Nat.lt_succ_self _, Weak_keep 0 hm [0, 3, 4] [] _ _ rfl rfl rfl, _, _, rfl, rfl, h⟩
      · have h := iteF hb10 h
        refine ACode_exit ?_
        cases h
        exact ⟨_, rfl, Weak_keep 0 hm [3] [] _ _ rfl rfl rfl⟩
  rintro E' H' ⟨s19, rfl, hw⟩
  refine ACode_weak hw ?_
  have h := hks19
  refine ACode_seq (ACode_region ?_)
  refine AOps_q 47 _ rfl rfl rfl (QOp_move _ _ rfl rfl) ?_
  refine AOps_q 2 _ rfl rfl rfl (QOp_assign _ _ rfl rfl) ?_
  refine AOps_nil ?_
  refine ACode_ret ?_
  cases h
  exact ⟨_, _, fun r a w h => ⟨r, h⟩, _, _, [], _, (.cons (ResV_tmp _ _ rfl) .nil), rfl, rfl, rfl, rfl, rfl⟩

-- loop.example/g01362/spec.l01In
def spec_l01In (p0 : Int) (p1 : Int) (p2 : Int) : Bool :=
  letO (if decide (p1 ≤ p0) then decide (p0 ≤ p2) else false) fun (s2 : Bool) => s2
set_option maxRecDepth 100000 in
theorem spec_l01In_ac (p0 : Int) (p1 : Int) (p2 : Int) : AC Tryd.prog 33 [iV p0, iV p1, iV p2] [] (fun res H' => res = [bV (spec_l01In p0 p1 p2)] ∧ H' = []) := by
  refine AC_of_body true Tryd.func33 rfl Tryd.ntmps33 (rvs := [.tmp 6]) rfl rfl (fun G hG => ?_)
  have hm : G.H.length = 0 := by rw [hG]; rfl
  have hz : zeroG G.H = true := by rw [hG]; rfl
  obtain ⟨r, h⟩ : ∃ r, spec_l01In p0 p1 p2 = r := ⟨_, rfl⟩
  rw [h]
  unfold spec_l01In at h
  refine ACode_seq (ACode_region ?_)
  refine AOps_q 6 _ rfl rfl rfl (QOp_assign _ _ rfl rfl) ?_
  refine AOps_nil ?_
  obtain ⟨s2, hss2, hks2⟩ := letS h
  clear h
  refine ACode_seqJ (fun E' H' => Weak 15 G E' H' [(6, bV s2)] []) ?_ ?_
  · have h := hss2
    clear hss2
    refine (ACode_region ?_)
    refine AOps_q 7 _ rfl rfl rfl (QOp_move _ _ rfl rfl) ?_
    refine AOps_q 8 _ rfl rfl rfl (QOp_move _ _ rfl rfl) ?_
    refine AOps_q 9 _ rfl rfl rfl (QOp_geq _ _ _ _ _ _ _ rfl rfl rfl) ?_
    refine AOps_q 10 _ rfl rfl rfl (QOp_move _ _ rfl rfl) ?_
    refine AOps_case 10 _ rfl (fun hb1 => ?_) (fun hb1 => ?_)
    · have h := iteT hb1 h
      refine AOps_q 11 _ rfl rfl rfl (QOp_move _ _ rfl rfl) ?_
      refine AOps_q 12 _ rfl rfl rfl (QOp_move _ _ rfl rfl) ?_
      refine AOps_q 13 _ rfl rfl rfl (QOp_leq _ _ _ _ _ _ _ rfl rfl rfl) ?_
      refine AOps_q 14 _ rfl rfl rfl (QOp_pick_t _ _ _ _ rfl rfl rfl) ?_
      refine AOps_q 6 _ rfl rfl rfl (QOp_assign _ _ rfl rfl) ?_
      refine AOps_nil ?_
      cases h
      exact Weak_keep 0 hm [6] [] _ _ rfl rfl rfl
    · have h := iteF hb1 h
      refine AOps_skip 11 rfl rfl rfl ?_
      refine AOps_skip 12 rfl rfl rfl ?_
      refine AOps_skip 13 rfl rfl rfl ?_
      refine AOps_q 14 _ rfl rfl rfl (QOp_pick_f _ _ _ _ rfl rfl rfl) ?_
      refine AOps_q 6 _ rfl rfl rfl (QOp_assign _ _ rfl rfl) ?_
      refine AOps_nil ?_
      cases h
      exact Weak_keep 0 hm [6] [] _ _ rfl rfl rfl
  intro E' H' hw
  refine ACode_weak hw ?_
  have h := hks2
  refine ACode_ret ?_
  cases h
  exact ⟨_, _, fun r a w h => ⟨r, h⟩, _, _, [], _, (.cons (ResV_tmp _ _ rfl) .nil), rfl, rfl, rfl, rfl, rfl⟩

-- loop.example/g01362/spec.l09Lists
def spec_l09Lists_l0 (p1 : List Int) : Nat → Int → Option (Sum (Unit) (Int))
  | 0, _ => none
  | k0 + 1, x6 => (if decide (x6 < (p1.length : Int)) then (if 0 ≤ x6 ∧ x6 < (p1.length : Int) then (if !(spec_l01In (p1.getD x6.toNat 0) (-1) 1) then some (.inr 2) else spec_l09Lists_l0 p1 k0 (w64 (x6 + 1))) else none) else some (.inl ()))
def spec_l09Lists (k : Nat) (p0 : Int) (p1 : List Int) : Option (Int) :=
  (letO (if !(spec_l01In p0 1 5) then true else !decide ((p1.length : Int) = w64 ((w64 (p0 * (w64 (p0 - 1)))).tdiv 2))) fun (s3 : Bool) => (if s3 then some (.inr 2) else some (.inl ())) : Option (Sum (Unit) (Int))).bind fun os5 => (match os5 with | .inl s5 => (spec_l09Lists_l0 p1 k 0 : Option (Sum (Unit) (Int))).bind fun os11 => (match os11 with | .inl s11 => some 0 | .inr rr => some rr) | .inr rr => some rr)
set_option maxRecDepth 100000 in
theorem spec_l09Lists_ac (k : Nat) (p0 : Int) (p1 : List Int) (r : Int) (h : spec_l09Lists k p0 p1 = some r) : AC Tryd.prog 39 [iV p0, .d (.sl none (intsD p1))] [] (fun res H' => res = [iV r] ∧ H' = []) := by
  refine AC_of_body true Tryd.func39 rfl Tryd.ntmps39 (rvs := [.tmp 4]) rfl rfl (fun G hG => ?_)
  have hm : G.H.length = 0 := by rw [hG]; rfl
  have hz : zeroG G.H = true := by rw [hG]; rfl
  unfold spec_l09Lists at h
  refine ACode_seq (ACode_region ?_)
  refine AOps_q 4 _ rfl rfl rfl (QOp_assign _ _ rfl rfl) ?_
  refine AOps_nil ?_
  obtain ⟨os5, hss5, hks5⟩ := bindO h
  clear h
  refine ACode_seqJ (fun E' H' => ∃ s5 : Unit, os5 = .inl s5 ∧ Weak 31 G E' H' [(1, .d (.sl none (intsD p1)))] []) ?_ ?_
  · have h := hss5
    clear hss5
    obtain ⟨s3, hss3, hks3⟩ := letS h
    clear h
    refine ACode_seqJ (fun E' H' => Weak 31 G E' H' [(1, .d (.sl none (intsD p1))), (18, bV s3)] []) ?_ ?_
    · have h := hss3
      clear hss3
      refine (ACode_region ?_)
      refine AOps_q 6 _ rfl rfl rfl (QOp_move _ _ rfl rfl) ?_
      refine AOps_call [] 7 _ _ _ _ _ _ _ _ _ _ rfl rfl rfl rfl rfl rfl rfl Tryd.call33 rfl (nodupB_sound _ rfl) rfl rfl rfl (spec_l01In_ac p0 1 5) ?_
      rintro _ _ ⟨rfl, rfl⟩
      refine ⟨(fun _ h => nomatch h), (allc (trivial) (fun _ h => nomatch h)), AOps_as 7 (v' := bV (spec_l01In p0 1 5)) (H' := []) rfl rfl ?_⟩
      refine AOps_q 8 _ rfl rfl rfl (QOp_not _ _ _ rfl rfl) ?_
      refine AOps_q 9 _ rfl rfl rfl (QOp_move _ _ rfl rfl) ?_
      refine AOps_case 9 _ rfl (fun hb2 => ?_) (fun hb2 => ?_)
      · have h := iteT hb2 h
        refine AOps_skip 10 rfl rfl rfl ?_
        refine AOps_skip 11 rfl rfl rfl ?_
        refine AOps_skip 12 rfl rfl rfl ?_
        refine AOps_skip 13 rfl rfl rfl ?_
        refine AOps_skip 14 rfl rfl rfl ?_
        refine AOps_skip 15 rfl rfl rfl ?_
        refine AOps_skip 16 rfl rfl rfl ?_
        refine AOps_skip 17 rfl rfl rfl ?_
        refine AOps_q 18 _ rfl rfl rfl (QOp_pick_t _ _ _ _ rfl rfl rfl) ?_
        refine AOps_nil ?_
        cases h
        exact Weak_keep 0 hm [1, 18] [] _ _ rfl rfl rfl
      · have h := iteF hb2 h
        refine AOps_q 10 _ rfl rfl rfl (QOp_move _ _ rfl rfl) ?_
        refine AOps_q 11 _ rfl rfl rfl (QOp_len_sl _ _ _ _ _ _ _ (intsD_length _) rfl rfl rfl rfl Tryd.underlying30 rfl) ?_
        refine AOps_q 12 _ rfl rfl rfl (QOp_move _ _ rfl rfl) ?_
        refine AOps_q 13 _ rfl rfl rfl (QOp_move _ _ rfl rfl) ?_
        refine AOps_q 14 _ rfl rfl rfl (QOp_sub _ _ _ _ _ _ _ rfl rfl rfl) ?_
        refine AOps_q 15 _ rfl rfl rfl (QOp_mul _ _ _ _ _ _ _ rfl rfl rfl) ?_
        refine AOps_q 16 _ rfl rfl rfl (QOp_quo _ _ _ _ _ _ _ (by decide) rfl rfl rfl) ?_
        refine AOps_q 17 _ rfl rfl rfl (QOp_neq _ _ _ _ _ _ _ rfl rfl rfl) ?_
        refine AOps_q 18 _ rfl rfl rfl (QOp_pick_f _ _ _ _ rfl rfl rfl) ?_
        refine AOps_nil ?_
        cases h
        exact Weak_keep 0 hm [1, 18] [] _ _ rfl rfl rfl
    intro E' H' hw
    refine ACode_weak hw ?_
    have h := hks3
    refine ACode_cond _ rfl (fun hb4 => ?_) (fun hb4 => ?_)
    · have h := iteT hb4 h
      refine ACode_seq (ACode_region ?_)
      refine AOps_q 4 _ rfl rfl rfl (QOp_assign _ _ rfl rfl) ?_
      refine AOps_nil ?_
      refine ACode_ret ?_
      cases h
      have h := hks5
      cases h
      exact ⟨_, _, fun r a w h => ⟨r, h⟩, _, _, [], _, (.cons (ResV_tmp _ _ rfl) .nil), rfl, rfl, rfl, rfl, rfl⟩
    · have h := iteF hb4 h
      refine ACode_skip ?_
      cases h
      exact ⟨_, rfl, Weak_keep 0 hm [1] [] _ _ rfl rfl rfl⟩
  rintro E' H' ⟨s5, rfl, hw⟩
  refine ACode_weak hw ?_
  have h := hks5
  obtain ⟨os11, hss11, hks11⟩ := bindO h
  clear h
  refine ACode_seqJ (fun E' H' => ∃ s11 : Unit, os11 = .inl s11 ∧ Weak 31 G E' H' [] []) ?_ ?_
  · have h := hss11
    clear hss11
    refine ACode_seq (ACode_region ?_)
    refine AOps_q 5 _ rfl rfl rfl (QOp_assign _ _ rfl rfl) ?_
    refine AOps_nil ?_
    refine ACode_block ?_
    refine ACode_loopW (fun k0 E H => ∃ (x6 : Int), E = [(1, .d (.sl none (intsD p1))), (5, iV x6)] ∧ H = [] ∧ spec_l09Lists_l0 p1 k0 x6 = some os11) k _ _ (Weak_keep 0 hm [1, 5] [] _ _ rfl rfl rfl) ⟨_, rfl, rfl, h⟩ ?_
    clear h
    rintro k0 E H ⟨x6, rfl, rfl, h⟩
    cases k0 with
    | zero => cases (show (none : Option (Sum (Unit) (Int))) = some _ from h)
    | succ k0 =>
      rw [spec_l09Lists_l0] at h
      refine ACode_seq ?_
      refine ACode_seq (ACode_region ?_)
      refine AOps_q 19 _ rfl rfl rfl (QOp_move _ _ rfl rfl) ?_
      refine AOps_q 20 _ rfl rfl rfl (QOp_move _ _ rfl rfl) ?_
      refine AOps_q 21 _ rfl rfl rfl (QOp_len_sl _ _ _ _ _ _ _ (intsD_length _) rfl rfl rfl rfl Tryd.underlying30 rfl) ?_
      refine AOps_q 22 _ rfl rfl rfl (QOp_lss _ _ _ _ _ _ _ rfl rfl rfl) ?_
      refine AOps_nil ?_
      refine ACode_cond _ rfl (fun hb7 => ?_) (fun hb7 => ?_)
      · have h := iteT hb7 h
        refine ACode_skip ?_
        refine ACode_seq ?_
        refine ACode_block ?_
        refine ACode_seq (ACode_region ?_)
        refine AOps_q 25 _ rfl rfl rfl (QOp_move _ _ rfl rfl) ?_
        refine AOps_q 26 _ rfl rfl rfl (QOp_move _ _ rfl rfl) ?_
        obtain ⟨hc8, h⟩ := guardO h
        refine AOps_q 27 _ rfl rfl rfl (QOp_indexAddr_sl _ _ _ _ _ _ _ _ rfl Tryd.underlying30 Tryd.sizeOf2 hc8.1 (by rw [intsD_length]; exact hc8.2) rfl rfl) ?_
        refine AOps_q 28 _ rfl rfl rfl (QOp_load_pv _ _ _ _ _ rfl Tryd.isAgg2 rfl (intsD_get _ _ 0 (by omega))) ?_
        refine AOps_call [] 29 _ _ _ _ _ _ _ _ _ _ rfl rfl rfl rfl rfl rfl rfl Tryd.call33 rfl (nodupB_sound _ rfl) rfl rfl rfl (spec_l01In_ac (p1.getD x6.toNat 0) (-1) 1) ?_
        rintro _ _ ⟨rfl, rfl⟩
        refine ⟨(fun _ h => nomatch h), (allc (trivial) (fun _ h => nomatch h)), AOps_as 29 (v' := bV (spec_l01In (p1.getD x6.toNat 0) (-1) 1)) (H' := []) rfl rfl ?_⟩
        refine AOps_q 30 _ rfl rfl rfl (QOp_not _ _ _ rfl rfl) ?_
        refine AOps_nil ?_
        refine ACode_cond _ rfl (fun hb10 => ?_) (fun hb10 => ?_)
        · have h := iteT hb10 h
          refine ACode_seq (ACode_region ?_)
          refine AOps_q 4 _ rfl rfl rfl (QOp_assign _ _ rfl rfl) ?_
          refine AOps_nil ?_
          refine ACode_ret ?_
          cases h
          have h := hks11
          cases h
          exact ⟨_, _, fun r a w h => ⟨r, h⟩, _, _, [], _, (.cons (ResV_tmp _ _ rfl) .nil), rfl, rfl, rfl, rfl, rfl⟩
        · have h := iteF hb10 h
          refine ACode_skip ?_
          refine (ACode_region ?_)
          refine AOps_q 23 _ rfl rfl rfl (QOp_move _ _ rfl rfl) ?_
          refine AOps_q 24 _ rfl rfl rfl (QOp_add _ _ _ _ _ _ _ rfl rfl rfl) ?_
          refine AOps_q 5 _ rfl rfl rfl (QOp_assign _ _ rfl rfl) ?_
          refine AOps_nil ?_
          exact ⟨k0, _, _, Nat.lt_succ_self _, Weak_keep 0 hm [1, 5] [] _ _ rfl rfl rfl, _, rfl, rfl, h⟩
      · have h := iteF hb7 h
        refine ACode_exit ?_
        cases h
        exact ⟨_, rfl, Weak_keep 0 hm [] [] _ _ rfl rfl rfl⟩
  rintro E' H' ⟨s11, rfl, hw⟩
  refine ACode_weak hw ?_
  have h := hks11
  refine ACode_seq (ACode_region ?_)
  refine AOps_q 4 _ rfl rfl rfl (QOp_assign _ _ rfl rfl) ?_
  refine AOps_nil ?_
  refine ACode_ret ?_
  cases h
  exact ⟨_, _, fun r a w h => ⟨r, h⟩, _, _, [], _, (.cons (ResV_tmp _ _ rfl) .nil), rfl, rfl, rfl, rfl, rfl⟩

-- loop.example/g01362/spec.l09Counts
def spec_l09Counts_l0 (p0 : List Int) : Nat → Int → Int → Int → Option (Int × Int)
  | 0, _, _, _ => none
  | k0 + 1, x1, x2, x3 => (if decide (x3 < (p0.length : Int)) then (((if 0 ≤ x3 ∧ x3 < (p0.length : Int) then (if decide ((p0.getD x3.toNat 0) = 0) then some (w64 (x1 + 1)) else some x1) else none) : Option (Int)).bind fun s7 => (if 0 ≤ x3 ∧ x3 < (p0.length : Int) then (if decide ((p0.getD x3.toNat 0) = 1) then some (s7, w64 (x2 + 1)) else some (s7, x2)) else none) : Option (Int × Int)).bind fun s10 => spec_l09Counts_l0 p0 k0 s10.1 s10.2 (w64 (x3 + 1)) else some (x1, x2))
def spec_l09Counts (k : Nat) (p0 : List Int) : Option (Int × Int) :=
  (spec_l09Counts_l0 p0 k 0 0 0 : Option (Int × Int)).bind fun s11 => some (s11.1, s11.2)
set_option maxRecDepth 100000 in
theorem spec_l09Counts_ac (k : Nat) (p0 : List Int) (r : Int × Int) (h : spec_l09Counts k p0 = some r) : AC Tryd.prog 72 [.d (.sl none (intsD p0))] [] (fun res H' => res = [iV r.1, iV r.2] ∧ H' = []) := by
  refine AC_of_body true Tryd.func72 rfl Tryd.ntmps72 (rvs := [.tmp 2, .tmp 3]) rfl rfl (fun G hG => ?_)
  have hm : G.H.length = 0 := by rw [hG]; rfl
  have hz : zeroG G.H = true := by rw [hG]; rfl
  unfold spec_l09Counts at h
  refine ACode_seq (ACode_region ?_)
  refine AOps_q 2 _ rfl rfl rfl (QOp_assign _ _ rfl rfl) ?_
  refine AOps_q 3 _ rfl rfl rfl (QOp_assign _ _ rfl rfl) ?_
  refine AOps_nil ?_
  refine ACode_seq (ACode_region ?_)
  refine AOps_q 4 _ rfl rfl rfl (QOp_assign _ _ rfl rfl) ?_
  refine AOps_q 5 _ rfl rfl rfl (QOp_assign _ _ rfl rfl) ?_
  refine AOps_nil ?_
  obtain ⟨s11, hss11, hks11⟩ := bindO h
  clear h
  refine ACode_seqJ (fun E' H' => Weak 29 G E' H' [(4, iV s11.1), (5, iV s11.2)] []) ?_ ?_
  · have h := hss11
    clear hss11
    refine ACode_seq (ACode_region ?_)
    refine AOps_q 6 _ rfl rfl rfl (QOp_assign _ _ rfl rfl) ?_
    refine AOps_nil ?_
    refine ACode_block ?_
    refine ACode_loopW (fun k0 E H => ∃ (x1 : Int) (x2 : Int) (x3 : Int), E = [(0, .d (.sl none (intsD p0))), (4, iV x1), (5, iV x2), (6, iV x3)] ∧ H = [] ∧ spec_l09Counts_l0 p0 k0 x1 x2 x3 = some s11) k _ _ (Weak_keep 0 hm [0, 4, 5, 6] [] _ _ rfl rfl rfl) ⟨_, _, _, rfl, rfl, h⟩ ?_
    clear h
    rintro k0 E H ⟨x1, x2, x3, rfl, rfl, h⟩
    cases k0 with
    | zero => cases (show (none : Option (Int × Int)) = some _ from h)
    | succ k0 =>
      rw [spec_l09Counts_l0] at h
      refine ACode_seq ?_
      refine ACode_seq (ACode_region ?_)
      refine AOps_q 7 _ rfl rfl rfl (QOp_move _ _ rfl rfl) ?_
      refine AOps_q 8 _ rfl rfl rfl (QOp_move _ _ rfl rfl) ?_
      refine AOps_q 9 _ rfl rfl rfl (QOp_len_sl _ _ _ _ _ _ _ (intsD_length _) rfl rfl rfl rfl Tryd.underlying30 rfl) ?_
      refine AOps_q 10 _ rfl rfl rfl (QOp_lss _ _ _ _ _ _ _ rfl rfl rfl) ?_
      refine AOps_nil ?_
      refine ACode_cond _ rfl (fun hb4 => ?_) (fun hb4 => ?_)
      · have h := iteT hb4 h
        refine ACode_skip ?_
        obtain ⟨s10, hss10, hks10⟩ := bindO h
        clear h
        refine ACode_seqJ (fun E' H' => Weak 29 G E' H' [(0, .d (.sl none (intsD p0))), (4, iV s10.1), (5, iV s10.2), (6, iV x3)] []) ?_ ?_
        · have h := hss10
          clear hss10
          refine ACode_block ?_
          obtain ⟨s7, hss7, hks7⟩ := bindO h
          clear h
          refine ACode_seqJ (fun E' H' => Weak 29 G E' H' [(0, .d (.sl none (intsD p0))), (4, iV s7), (5, iV x2), (6, iV x3)] []) ?_ ?_
          · have h := hss7
            clear hss7
            refine ACode_seq (ACode_region ?_)
            refine AOps_q 13 _ rfl rfl rfl (QOp_move _ _ rfl rfl) ?_
            refine AOps_q 14 _ rfl rfl rfl (QOp_move _ _ rfl rfl) ?_
            obtain ⟨hc5, h⟩ := guardO h
            refine AOps_q 15 _ rfl rfl rfl (QOp_indexAddr_sl _ _ _ _ _ _ _ _ rfl Tryd.underlying30 Tryd.sizeOf2 hc5.1 (by rw [intsD_length]; exact hc5.2) rfl rfl) ?_
            refine AOps_q 16 _ rfl rfl rfl (QOp_load_pv _ _ _ _ _ rfl Tryd.isAgg2 rfl (intsD_get _ _ 0 (by omega))) ?_
            refine AOps_q 17 _ rfl rfl rfl (QOp_eql _ _ _ _ _ _ _ rfl rfl rfl) ?_
            refine AOps_nil ?_
            refine ACode_cond _ rfl (fun hb6 => ?_) (fun hb6 => ?_)
            · have h := iteT hb6 h
              refine (ACode_region ?_)
              refine AOps_q 18 _ rfl rfl rfl (QOp_move _ _ rfl rfl) ?_
              refine AOps_q 19 _ rfl rfl rfl (QOp_add _ _ _ _ _ _ _ rfl rfl rfl) ?_
              refine AOps_q 4 _ rfl rfl rfl (QOp_assign _ _ rfl rfl) ?_
              refine AOps_nil ?_
              cases h
              exact Weak_keep 0 hm [0, 4, 5, 6] [] _ _ rfl rfl rfl
            · have h := iteF hb6 h
              refine ACode_skip ?_
              cases h
              exact Weak_keep 0 hm [0, 4, 5, 6] [] _ _ rfl rfl rfl
          intro E' H' hw
          refine ACode_weak hw ?_
          have h := hks7
          refine ACode_seq (ACode_region ?_)
          refine AOps_q 20 _ rfl rfl rfl (QOp_move _ _ rfl rfl) ?_
          refine AOps_q 21 _ rfl rfl rfl (QOp_move _ _ rfl rfl) ?_
          obtain ⟨hc8, h⟩ := guardO h
          refine AOps_q 22 _ rfl rfl rfl (QOp_indexAddr_sl _ _ _ _ _ _ _ _ rfl Tryd.underlying30 Tryd.sizeOf2 hc8.1 (by rw [intsD_length]; exact hc8.2) rfl rfl) ?_
          refine AOps_q 23 _ rfl rfl rfl (QOp_load_pv _ _ _ _ _ rfl Tryd.isAgg2 rfl (intsD_get _ _ 0 (by omega))) ?_
          refine AOps_q 24 _ rfl rfl rfl (QOp_eql _ _ _ _ _ _ _ rfl rfl rfl) ?_
          refine AOps_nil ?_
          refine ACode_cond _ rfl (fun hb9 => ?_) (fun hb9 => ?_)
          · have h := iteT hb9 h
            refine (ACode_region ?_)
            refine AOps_q 25 _ rfl rfl rfl (QOp_move _ _ rfl rfl) ?_
            refine AOps_q 26 _ rfl rfl rfl (QOp_add _ _ _ _ _ _ _ rfl rfl rfl) ?_
            refine AOps_q 5 _ rfl rfl rfl (QOp_assign _ _ rfl rfl) ?_
            refine AOps_nil ?_
            cases h
            exact Weak_keep 0 hm [0, 4, 5, 6] [] _ _ rfl rfl rfl
          · have h := iteF hb9 h
            refine ACode_skip ?_
            cases h
            exact Weak_keep 0 hm [0, 4, 5, 6] [] _ _ rfl rfl rfl
        intro E' H' hw
        refine ACode_weak hw ?_
        have h := hks10
        refine (ACode_region ?_)
        refine AOps_q 11 _ rfl rfl rfl (QOp_move _ _ rfl rfl) ?_
        refine AOps_q 12 _ rfl rfl rfl (QOp_add _ _ _ _ _ _ _ rfl rfl rfl) ?_
        refine AOps_q 6 _ rfl rfl rfl (QOp_assign _ _ rfl rfl) ?_
        refine AOps_nil ?_
        exact ⟨k0, _, _, Nat.lt_succ_self _, Weak_keep 0 hm [0, 4, 5, 6] [] _ _ rfl rfl rfl, _, _, _, rfl, rfl, h⟩
      · have h := iteF hb4 h
        refine ACode_exit ?_
        cases h
        exact Weak_keep 0 hm [4, 5] [] _ _ rfl rfl rfl
  intro E' H' hw
  refine ACode_weak hw ?_
  have h := hks11
  refine ACode_seq (ACode_region ?_)
  refine AOps_q 27 _ rfl rfl rfl (QOp_move _ _ rfl rfl) ?_
  refine AOps_q 28 _ rfl rfl rfl (QOp_move _ _ rfl rfl) ?_
  refine AOps_q 2 _ rfl rfl rfl (QOp_assign _ _ rfl rfl) ?_
  refine AOps_q 3 _ rfl rfl rfl (QOp_assign _ _ rfl rfl) ?_
  refine AOps_nil ?_
  refine ACode_ret ?_
  cases h
  exact ⟨_, _, fun r a w h => ⟨r, h⟩, _, _, [], _, (.cons (ResV_tmp _ _ rfl) (.cons (ResV_tmp _ _ rfl) .nil)), rfl, rfl, rfl, rfl, rfl⟩

-- loop.example/g01362/spec.l09Mover
def spec_l09Mover (k : Nat) (p0 : List Int) : Option (Int) :=
  (spec_l09Counts k p0).bind fun r1 => some (w64 (r1.1 - r1.2))
set_option maxRecDepth 100000 in
theorem spec_l09Mover_ac (k : Nat) (p0 : List Int) (r : Int) (h : spec_l09Mover k p0 = some r) : AC Tryd.prog 56 [.d (.sl none (intsD p0))] [] (fun res H' => res = [iV r] ∧ H' = []) := by
  refine AC_of_body true Tryd.func56 rfl Tryd.ntmps56 (rvs := [.tmp 2]) rfl rfl (fun G hG => ?_)
  have hm : G.H.length = 0 := by rw [hG]; rfl
  have hz : zeroG G.H = true := by rw [hG]; rfl
  unfold spec_l09Mover at h
  refine ACode_seq (ACode_region ?_)
  refine AOps_q 2 _ rfl rfl rfl (QOp_assign _ _ rfl rfl) ?_
  refine AOps_nil ?_
  refine ACode_seq (ACode_region ?_)
  refine AOps_q 6 _ rfl rfl rfl (QOp_move _ _ rfl rfl) ?_
  obtain ⟨r1, hr1, h⟩ := bindO h
  refine AOps_call [] 7 _ _ _ _ _ _ _ _ _ _ rfl rfl rfl rfl rfl rfl rfl Tryd.call72 rfl (nodupB_sound _ rfl) rfl rfl rfl (spec_l09Counts_ac k p0 _ hr1) ?_
  rintro _ _ ⟨rfl, rfl⟩
  refine ⟨(fun _ h => nomatch h), (allc (trivial) (allc (trivial) (fun _ h => nomatch h))), AOps_as 7 (v' := .tup [iV r1.1, iV r1.2]) (H' := []) rfl rfl ?_⟩
  refine AOps_q 5 _ rfl rfl rfl (QOp_move _ _ rfl rfl) ?_
  refine AOps_q 8 _ rfl rfl rfl (QOp_extract _ _ _ _ rfl rfl rfl) ?_
  refine AOps_q 9 _ rfl rfl rfl (QOp_extract _ _ _ _ rfl rfl rfl) ?_
  refine AOps_q 3 _ rfl rfl rfl (QOp_assign _ _ rfl rfl) ?_
  refine AOps_q 4 _ rfl rfl rfl (QOp_assign _ _ rfl rfl) ?_
  refine AOps_nil ?_
  refine ACode_seq (ACode_region ?_)
  refine AOps_q 10 _ rfl rfl rfl (QOp_move _ _ rfl rfl) ?_
  refine AOps_q 11 _ rfl rfl rfl (QOp_move _ _ rfl rfl) ?_
  refine AOps_q 12 _ rfl rfl rfl (QOp_sub _ _ _ _ _ _ _ rfl rfl rfl) ?_
  refine AOps_q 2 _ rfl rfl rfl (QOp_assign _ _ rfl rfl) ?_
  refine AOps_nil ?_
  refine ACode_ret ?_
  cases h
  exact ⟨_, _, fun r a w h => ⟨r, h⟩, _, _, [], _, (.cons (ResV_tmp _ _ rfl) .nil), rfl, rfl, rfl, rfl, rfl⟩

-- loop.example/g01362/spec.l01Edge
def spec_l01Edge (p0 : Int) (p1 : Int) : Int :=
  (if decide (p1 < p0) then w64 ((w64 ((w64 (p0 * (w64 (p0 - 1)))).tdiv 2)) + p1) else w64 ((w64 ((w64 (p1 * (w64 (p1 - 1)))).tdiv 2)) + p0))
set_option maxRecDepth 100000 in
theorem spec_l01Edge_ac (p0 : Int) (p1 : Int) : AC Tryd.prog 49 [iV p0, iV p1] [] (fun res H' => res = [iV (spec_l01Edge p0 p1)] ∧ H' = []) := by
  refine AC_of_body true Tryd.func49 rfl Tryd.ntmps49 (rvs := [.tmp 4]) rfl rfl (fun G hG => ?_)
  have hm : G.H.length = 0 := by rw [hG]; rfl
  have hz : zeroG G.H = true := by rw [hG]; rfl
  obtain ⟨r, h⟩ : ∃ r, spec_l01Edge p0 p1 = r := ⟨_, rfl⟩
  rw [h]
  unfold spec_l01Edge at h
  refine ACode_seq (ACode_region ?_)
  refine AOps_q 4 _ rfl rfl rfl (QOp_assign _ _ rfl rfl) ?_
  refine AOps_nil ?_
  refine ACode_seq ?_
  refine ACode_seq (ACode_region ?_)
  refine AOps_q 5 _ rfl rfl rfl (QOp_move _ _ rfl rfl) ?_
  refine AOps_q 6 _ rfl rfl rfl (QOp_move _ _ rfl rfl) ?_
  refine AOps_q 7 _ rfl rfl rfl (QOp_gtr _ _ _ _ _ _ _ rfl rfl rfl) ?_
  refine AOps_nil ?_
  refine ACode_cond _ rfl (fun hb1 => ?_) (fun hb1 => ?_)
  · have h := iteT hb1 h
    refine ACode_seq (ACode_region ?_)
    refine AOps_q 8 _ rfl rfl rfl (QOp_move _ _ rfl rfl) ?_
    refine AOps_q 9 _ rfl rfl rfl (QOp_move _ _ rfl rfl) ?_
    refine AOps_q 10 _ rfl rfl rfl (QOp_sub _ _ _ _ _ _ _ rfl rfl rfl) ?_
    refine AOps_q 11 _ rfl rfl rfl (QOp_mul _ _ _ _ _ _ _ rfl rfl rfl) ?_
    refine AOps_q 12 _ rfl rfl rfl (QOp_quo _ _ _ _ _ _ _ (by decide) rfl rfl rfl) ?_
    refine AOps_q 13 _ rfl rfl rfl (QOp_move _ _ rfl rfl) ?_
    refine AOps_q 14 _ rfl rfl rfl (QOp_add _ _ _ _ _ _ _ rfl rfl rfl) ?_
    refine AOps_q 4 _ rfl rfl rfl (QOp_assign _ _ rfl rfl) ?_
    refine AOps_nil ?_
    refine ACode_ret ?_
    cases h
    exact ⟨_, _, fun r a w h => ⟨r, h⟩, _, _, [], _, (.cons (ResV_tmp _ _ rfl) .nil), rfl, rfl, rfl, rfl, rfl⟩
  · have h := iteF hb1 h
    refine ACode_skip ?_
    refine ACode_seq (ACode_region ?_)
    refine AOps_q 15 _ rfl rfl rfl (QOp_move _ _ rfl rfl) ?_
    refine AOps_q 16 _ rfl rfl rfl (QOp_move _ _ rfl rfl) ?_
    refine AOps_q 17 _ rfl rfl rfl (QOp_sub _ _ _ _ _ _ _ rfl rfl rfl) ?_
    refine AOps_q 18 _ rfl rfl rfl (QOp_mul _ _ _ _ _ _ _ rfl rfl rfl) ?_
    refine AOps_q 19 _ rfl rfl rfl (QOp_quo _ _ _ _ _ _ _ (by decide) rfl rfl rfl) ?_
    refine AOps_q 20 _ rfl rfl rfl (QOp_move _ _ rfl rfl) ?_
    refine AOps_q 21 _ rfl rfl rfl (QOp_add _ _ _ _ _ _ _ rfl rfl rfl) ?_
    refine AOps_q 4 _ rfl rfl rfl (QOp_assign _ _ rfl rfl) ?_
    refine AOps_nil ?_
    refine ACode_ret ?_
    cases h
    exact ⟨_, _, fun r a w h => ⟨r, h⟩, _, _, [], _, (.cons (ResV_tmp _ _ rfl) .nil), rfl, rfl, rfl, rfl, rfl⟩

-- loop.example/g01362/spec.l09Common
def spec_l09Common_l2 (p1 : List Int) (p2 : Int) (x4 : Int) (x8 : Int) : Nat → Int → Int → Int → Option (Int × Int)
  | 0, _, _, _ => none
  | k2 + 1, x10, x11, x12 => (if decide (x12 < x8) then (((if 0 ≤ (spec_l01Edge x12 x8) ∧ (spec_l01Edge x12 x8) < (p1.length : Int) then (if decide ((p1.getD (spec_l01Edge x12 x8).toNat 0) = p2) then (if 0 ≤ (spec_l01Edge x12 x4) ∧ (spec_l01Edge x12 x4) < (p1.length : Int) then (if decide ((p1.getD (spec_l01Edge x12 x4).toNat 0) = p2) then (if 0 ≤ (spec_l01Edge x8 x4) ∧ (spec_l01Edge x8 x4) < (p1.length : Int) then some (decide ((p1.getD (spec_l01Edge x8 x4).toNat 0) = p2)) else none) else some false) else none) else some false) else none) : Option (Bool)).bind fun s22 => (if s22 then (if 0 ≤ IntKind.u64.wrap (spec_l01Edge x12 x8) then (if 0 ≤ IntKind.u64.wrap (spec_l01Edge x12 x4) then (if 0 ≤ IntKind.u64.wrap (spec_l01Edge x8 x4) then some (bAnd .i64 x10 (bOr .i64 (bOr .i64 (bShl .i64 1 (IntKind.u64.wrap (spec_l01Edge x12 x8))) (bShl .i64 1 (IntKind.u64.wrap (spec_l01Edge x12 x4)))) (bShl .i64 1 (IntKind.u64.wrap (spec_l01Edge x8 x4)))), w64 (x11 + 1)) else none) else none) else none) else some (x10, x11)) : Option (Int × Int)).bind fun s27 => spec_l09Common_l2 p1 p2 x4 x8 k2 s27.1 s27.2 (w64 (x12 + 1)) else some (x10, x11))
def spec_l09Common_l1 (k : Nat) (p1 : List Int) (p2 : Int) (x4 : Int) : Nat → Int → Int → Int → Option (Int × Int)
  | 0, _, _, _ => none
  | k1 + 1, x6, x7, x8 => (if decide (x8 < x4) then (spec_l09Common_l2 p1 p2 x4 x8 k x6 x7 0 : Option (Int × Int)).bind fun s28 => spec_l09Common_l1 k p1 p2 x4 k1 s28.1 s28.2 (w64 (x8 + 1)) else some (x6, x7))
def spec_l09Common_l0 (k : Nat) (p0 : Int) (p1 : List Int) (p2 : Int) : Nat → Int → Int → Int → Option (Int × Int)
  | 0, _, _, _ => none
  | k0 + 1, x2, x3, x4 => (if decide (x4 < p0) then (spec_l09Common_l1 k p1 p2 x4 k x2 x3 1 : Option (Int × Int)).bind fun s29 => spec_l09Common_l0 k p0 p1 p2 k0 s29.1 s29.2 (w64 (x4 + 1)) else some (x2, x3))
def spec_l09Common (k : Nat) (p0 : Int) (p1 : List Int) (p2 : Int) : Option (Int × Int) :=
  (if 0 ≤ IntKind.u64.wrap (p1.length : Int) then (spec_l09Common_l0 k p0 p1 p2 k (w64 ((bShl .i64 1 (IntKind.u64.wrap (p1.length : Int))) - 1)) 0 2 : Option (Int × Int)).bind fun s30 => some (s30.1, s30.2) else none)
set_option maxRecDepth 100000 in
theorem spec_l09Common_ac (k : Nat) (p0 : Int) (p1 : List Int) (p2 : Int) (r : Int × Int) (h : spec_l09Common k p0 p1 p2 = some r) : AC Tryd.prog 57 [iV p0, .d (.sl none (intsD p1)), iV p2] [] (fun res H' => res = [iV r.1, iV r.2] ∧ H' = []) := by
  refine AC_of_body true Tryd.func57 rfl Tryd.ntmps57 (rvs := [.tmp 6, .tmp 7]) rfl rfl (fun G hG => ?_)
  have hm : G.H.length = 0 := by rw [hG]; rfl
  have hz : zeroG G.H = true := by rw [hG]; rfl
  unfold spec_l09Common at h
  refine ACode_seq (ACode_region ?_)
  refine AOps_q 6 _ rfl rfl rfl (QOp_assign _ _ rfl rfl) ?_
  refine AOps_q 7 _ rfl rfl rfl (QOp_assign _ _ rfl rfl) ?_
  refine AOps_nil ?_
  refine ACode_seq (ACode_region ?_)
  refine AOps_q 16 _ rfl rfl rfl (QOp_move _ _ rfl rfl) ?_
  refine AOps_q 17 _ rfl rfl rfl (QOp_len_sl _ _ _ _ _ _ _ (intsD_length _) rfl rfl rfl rfl Tryd.underlying30 rfl) ?_
  refine AOps_q 18 _ rfl rfl rfl (QOp_conv _ _ _ _ _ _ rfl rfl Tryd.underlying91 rfl) ?_
  obtain ⟨hc1, h⟩ := guardO h
  refine AOps_q 19 _ rfl rfl rfl (QOp_shl _ _ _ _ _ _ _ _ hc1 rfl rfl rfl) ?_
  refine AOps_q 20 _ rfl rfl rfl (QOp_sub _ _ _ _ _ _ _ rfl rfl rfl) ?_
  refine AOps_q 8 _ rfl rfl rfl (QOp_assign _ _ rfl rfl) ?_
  refine AOps_q 9 _ rfl rfl rfl (QOp_assign _ _ rfl rfl) ?_
  refine AOps_nil ?_
  obtain ⟨s30, hss30, hks30⟩ := bindO h
  clear h
  refine ACode_seqJ (fun E' H' => Weak 84 G E' H' [(8, iV s30.1), (9, iV s30.2)] []) ?_ ?_
  · have h := hss30
    clear hss30
    refine ACode_seq (ACode_region ?_)
    refine AOps_q 10 _ rfl rfl rfl (QOp_assign _ _ rfl rfl) ?_
    refine AOps_nil ?_
    refine ACode_block ?_
    refine ACode_loopW (fun k0 E H => ∃ (x2 : Int) (x3 : Int) (x4 : Int), E = [(0, iV p0), (1, .d (.sl none (intsD p1))), (2, iV p2), (8, iV x2), (9, iV x3), (10, iV x4)] ∧ H = [] ∧ spec_l09Common_l0 k p0 p1 p2 k0 x2 x3 x4 = some s30) k _ _ (Weak_keep 0 hm [0, 1, 2, 8, 9, 10] [] _ _ rfl rfl rfl) ⟨_, _, _, rfl, rfl, h⟩ ?_
    clear h
    rintro k0 E H ⟨x2, x3, x4, rfl, rfl, h⟩
    cases k0 with
    | zero => cases (show (none : Option (Int × Int)) = some _ from h)
    | succ k0 =>
      rw [spec_l09Common_l0] at h
      refine ACode_seq ?_
      refine ACode_seq (ACode_region ?_)
      refine AOps_q 21 _ rfl rfl rfl (QOp_move _ _ rfl rfl) ?_
      refine AOps_q 22 _ rfl rfl rfl (QOp_move _ _ rfl rfl) ?_
      refine AOps_q 23 _ rfl rfl rfl (QOp_lss _ _ _ _ _ _ _ rfl rfl rfl) ?_
      refine AOps_nil ?_
      refine ACode_cond _ rfl (fun hb5 => ?_) (fun hb5 => ?_)
      · have h := iteT hb5 h
        refine ACode_skip ?_
        obtain ⟨s29, hss29, hks29⟩ := bindO h
        clear h
        refine ACode_seqJ (fun E' H' => Weak 84 G E' H' [(0, iV p0), (1, .d (.sl none (intsD p1))), (2, iV p2), (8, iV s29.1), (9, iV s29.2), (10, iV x4)] []) ?_ ?_
        · have h := hss29
          clear hss29
          refine ACode_block ?_
          refine ACode_seq (ACode_region ?_)
          refine AOps_q 11 _ rfl rfl rfl (QOp_assign _ _ rfl rfl) ?_
          refine AOps_nil ?_
          refine ACode_block ?_
          refine ACode_loopW (fun k1 E H => ∃ (x6 : Int) (x7 : Int) (x8 : Int), E = [(0, iV p0), (1, .d (.sl none (intsD p1))), (2, iV p2), (8, iV x6), (9, iV x7), (10, iV x4), (11, iV x8)] ∧ H = [] ∧ spec_l09Common_l1 k p1 p2 x4 k1 x6 x7 x8 = some s29) k _ _ (Weak_keep 0 hm [0, 1, 2, 8, 9, 10, 11] [] _ _ rfl rfl rfl) ⟨_, _, _, rfl, rfl, h⟩ ?_
          clear h
          rintro k1 E H ⟨x6, x7, x8, rfl, rfl, h⟩
          cases k1 with
          | zero => cases (show (none : Option (Int × Int)) = some _ from h)
          | succ k1 =>
            rw [spec_l09Common_l1] at h
            refine ACode_seq ?_
            refine ACode_seq (ACode_region ?_)
            refine AOps_q 26 _ rfl rfl rfl (QOp_move _ _ rfl rfl) ?_
            refine AOps_q 27 _ rfl rfl rfl (QOp_move _ _ rfl rfl) ?_
            refine AOps_q 28 _ rfl rfl rfl (QOp_lss _ _ _ _ _ _ _ rfl rfl rfl) ?_
            refine AOps_nil ?_
            refine ACode_cond _ rfl (fun hb9 => ?_) (fun hb9 => ?_)
            · have h := iteT hb9 h
              refine ACode_skip ?_
              obtain ⟨s28, hss28, hks28⟩ := bindO h
              clear h
              refine ACode_seqJ (fun E' H' => Weak 84 G E' H' [(0, iV p0), (1, .d (.sl none (intsD p1))), (2, iV p2), (8, iV s28.1), (9, iV s28.2), (10, iV x4), (11, iV x8)] []) ?_ ?_
              · have h := hss28
                clear hss28
                refine ACode_block ?_
                refine ACode_seq (ACode_region ?_)
                refine AOps_q 12 _ rfl rfl rfl (QOp_assign _ _ rfl rfl) ?_
                refine AOps_nil ?_
                refine ACode_block ?_
                refine ACode_loopW (fun k2 E H => ∃ (x10 : Int) (x11 : Int) (x12 : Int), E = [(0, iV p0), (1, .d (.sl none (intsD p1))), (2, iV p2), (8, iV x10), (9, iV x11), (10, iV x4), (11, iV x8), (12, iV x12)] ∧ H = [] ∧ spec_l09Common_l2 p1 p2 x4 x8 k2 x10 x11 x12 = some s28) k _ _ (Weak_keep 0 hm [0, 1, 2, 8, 9, 10, 11, 12] [] _ _ rfl rfl rfl) ⟨_, _, _, rfl, rfl, h⟩ ?_
                clear h
                rintro k2 E H ⟨x10, x11, x12, rfl, rfl, h⟩
                cases k2 with
                | zero => cases (show (none : Option (Int × Int)) = some _ from h)
                | succ k2 =>
                  rw [spec_l09Common_l2] at h
                  refine ACode_seq ?_
                  refine ACode_seq (ACode_region ?_)
                  refine AOps_q 31 _ rfl rfl rfl (QOp_move _ _ rfl rfl) ?_
                  refine AOps_q 32 _ rfl rfl rfl (QOp_move _ _ rfl rfl) ?_
                  refine AOps_q 33 _ rfl rfl rfl (QOp_lss _ _ _ _ _ _ _ rfl rfl rfl) ?_
                  refine AOps_nil ?_
                  refine ACode_cond _ rfl (fun hb13 => ?_) (fun hb13 => ?_)
                  · have h := iteT hb13 h
                    refine ACode_skip ?_
                    obtain ⟨s27, hss27, hks27⟩ := bindO h
                    clear h
                    refine ACode_seqJ (fun E' H' => Weak 84 G E' H' [(0, iV p0), (1, .d (.sl none (intsD p1))), (2, iV p2), (8, iV s27.1), (9, iV s27.2), (10, iV x4), (11, iV x8), (12, iV x12)] []) ?_ ?_
                    · have h := hss27
                      clear hss27
                      refine ACode_block ?_
                      refine ACode_seq (ACode_region ?_)
                      refine AOps_q 36 _ rfl rfl rfl (QOp_move _ _ rfl rfl) ?_
                      refine AOps_q 37 _ rfl rfl rfl (QOp_move _ _ rfl rfl) ?_
                      refine AOps_call [] 38 _ _ _ _ _ _ _ _ _ _ rfl rfl rfl rfl rfl rfl rfl Tryd.call49 rfl (nodupB_sound _ rfl) rfl rfl rfl (spec_l01Edge_ac x12 x8) ?_
                      rintro _ _ ⟨rfl, rfl⟩
                      refine ⟨(fun _ h => nomatch h), (allc (trivial) (fun _ h => nomatch h)), AOps_as 38 (v' := iV (spec_l01Edge x12 x8)) (H' := []) rfl rfl ?_⟩
                      refine AOps_q 39 _ rfl rfl rfl (QOp_move _ _ rfl rfl) ?_
                      refine AOps_q 40 _ rfl rfl rfl (QOp_move _ _ rfl rfl) ?_
                      refine AOps_call [] 41 _ _ _ _ _ _ _ _ _ _ rfl rfl rfl rfl rfl rfl rfl Tryd.call49 rfl (nodupB_sound _ rfl) rfl rfl rfl (spec_l01Edge_ac x12 x4) ?_
                      rintro _ _ ⟨rfl, rfl⟩
                      refine ⟨(fun _ h => nomatch h), (allc (trivial) (fun _ h => nomatch h)), AOps_as 41 (v' := iV (spec_l01Edge x12 x4)) (H' := []) rfl rfl ?_⟩
                      refine AOps_q 42 _ rfl rfl rfl (QOp_move _ _ rfl rfl) ?_
                      refine AOps_q 43 _ rfl rfl rfl (QOp_move _ _ rfl rfl) ?_
                      refine AOps_call [] 44 _ _ _ _ _ _ _ _ _ _ rfl rfl rfl rfl rfl rfl rfl Tryd.call49 rfl (nodupB_sound _ rfl) rfl rfl rfl (spec_l01Edge_ac x8 x4) ?_
                      rintro _ _ ⟨rfl, rfl⟩
                      refine ⟨(fun _ h => nomatch h), (allc (trivial) (fun _ h => nomatch h)), AOps_as 44 (v' := iV (spec_l01Edge x8 x4)) (H' := []) rfl rfl ?_⟩
                      refine AOps_q 13 _ rfl rfl rfl (QOp_assign _ _ rfl rfl) ?_
                      refine AOps_q 14 _ rfl rfl rfl (QOp_assign _ _ rfl rfl) ?_
                      refine AOps_q 15 _ rfl rfl rfl (QOp_assign _ _ rfl rfl) ?_
                      refine AOps_nil ?_
                      obtain ⟨s22, hss22, hks22⟩ := bindO h
                      clear h
                      refine ACode_seqJ (fun E' H' => Weak 84 G E' H' [(0, iV p0), (1, .d (.sl none (intsD p1))), (2, iV p2), (8, iV x10), (9, iV x11), (10, iV x4), (11, iV x8), (12, iV x12), (13, iV (spec_l01Edge x12 x8)), (14, iV (spec_l01Edge x12 x4)), (15, iV (spec_l01Edge x8 x4)), (66, bV s22)] []) ?_ ?_
                      · have h := hss22
                        clear hss22
                        refine (ACode_region ?_)
                        refine AOps_q 45 _ rfl rfl rfl (QOp_move _ _ rfl rfl) ?_
                        refine AOps_q 46 _ rfl rfl rfl (QOp_move _ _ rfl rfl) ?_
                        obtain ⟨hc17, h⟩ := guardO h
                        refine AOps_q 47 _ rfl rfl rfl (QOp_indexAddr_sl _ _ _ _ _ _ _ _ rfl Tryd.underlying30 Tryd.sizeOf2 hc17.1 (by rw [intsD_length]; exact hc17.2) rfl rfl) ?_
                        refine AOps_q 48 _ rfl rfl rfl (QOp_load_pv _ _ _ _ _ rfl Tryd.isAgg2 rfl (intsD_get _ _ 0 (by omega))) ?_
                        refine AOps_q 49 _ rfl rfl rfl (QOp_move _ _ rfl rfl) ?_
                        refine AOps_q 50 _ rfl rfl rfl (QOp_eql _ _ _ _ _ _ _ rfl rfl rfl) ?_
                        refine AOps_q 51 _ rfl rfl rfl (QOp_move _ _ rfl rfl) ?_
                        refine AOps_case 51 _ rfl (fun hb18 => ?_) (fun hb18 => ?_)
                        · have h := iteT hb18 h
                          refine AOps_q 52 _ rfl rfl rfl (QOp_move _ _ rfl rfl) ?_
                          refine AOps_q 53 _ rfl rfl rfl (QOp_move _ _ rfl rfl) ?_
                          obtain ⟨hc19, h⟩ := guardO h
                          refine AOps_q 54 _ rfl rfl rfl (QOp_indexAddr_sl _ _ _ _ _ _ _ _ rfl Tryd.underlying30 Tryd.sizeOf2 hc19.1 (by rw [intsD_length]; exact hc19.2) rfl rfl) ?_
                          refine AOps_q 55 _ rfl rfl rfl (QOp_load_pv _ _ _ _ _ rfl Tryd.isAgg2 rfl (intsD_get _ _ 0 (by omega))) ?_
                          refine AOps_q 56 _ rfl rfl rfl (QOp_move _ _ rfl rfl) ?_
                          refine AOps_q 57 _ rfl rfl rfl (QOp_eql _ _ _ _ _ _ _ rfl rfl rfl) ?_
                          refine AOps_q 58 _ rfl rfl rfl (QOp_pick_t _ _ _ _ rfl rfl rfl) ?_
                          refine AOps_q 59 _ rfl rfl rfl (QOp_move _ _ rfl rfl) ?_
                          refine AOps_case 59 _ rfl (fun hb20 => ?_) (fun hb20 => ?_)
                          · have h := iteT hb20 h
                            refine AOps_q 60 _ rfl rfl rfl (QOp_move _ _ rfl rfl) ?_
                            refine AOps_q 61 _ rfl rfl rfl (QOp_move _ _ rfl rfl) ?_
                            obtain ⟨hc21, h⟩ := guardO h
                            refine AOps_q 62 _ rfl rfl rfl (QOp_indexAddr_sl _ _ _ _ _ _ _ _ rfl Tryd.underlying30 Tryd.sizeOf2 hc21.1 (by rw [intsD_length]; exact hc21.2) rfl rfl) ?_
                            refine AOps_q 63 _ rfl rfl rfl (QOp_load_pv _ _ _ _ _ rfl Tryd.isAgg2 rfl (intsD_get _ _ 0 (by omega))) ?_
                            refine AOps_q 64 _ rfl rfl rfl (QOp_move _ _ rfl rfl) ?_
                            refine AOps_q 65 _ rfl rfl rfl (QOp_eql _ _ _ _ _ _ _ rfl rfl rfl) ?_
                            refine AOps_q 66 _ rfl rfl rfl (QOp_pick_t _ _ _ _ rfl rfl rfl) ?_
                            refine AOps_nil ?_
                            cases h
                            exact Weak_keep 0 hm [0, 1, 2, 8, 9, 10, 11, 12, 13, 14, 15, 66] [] _ _ rfl rfl rfl
                          · have h := iteF hb20 h
                            refine AOps_skip 60 rfl rfl rfl ?_
                            refine AOps_skip 61 rfl rfl rfl ?_
                            refine AOps_skip 62 rfl rfl rfl ?_
                            refine AOps_skip 63 rfl rfl rfl ?_
                            refine AOps_skip 64 rfl rfl rfl ?_
                            refine AOps_skip 65 rfl rfl rfl ?_
                            refine AOps_q 66 _ rfl rfl rfl (QOp_pick_f _ _ _ _ rfl rfl rfl) ?_
                            refine AOps_nil ?_
                            cases h
                            exact Weak_keep 0 hm [0, 1, 2, 8, 9, 10, 11, 12, 13, 14, 15, 66] [] _ _ rfl rfl rfl
                        · have h := iteF hb18 h
                          refine AOps_skip 52 rfl rfl rfl ?_
                          refine AOps_skip 53 rfl rfl rfl ?_
                          refine AOps_skip 54 rfl rfl rfl ?_
                          refine AOps_skip 55 rfl rfl rfl ?_
                          refine AOps_skip 56 rfl rfl rfl ?_
                          refine AOps_skip 57 rfl rfl rfl ?_
                          refine AOps_q 58 _ rfl rfl rfl (QOp_pick_f _ _ _ _ rfl rfl rfl) ?_
                          refine AOps_q 59 _ rfl rfl rfl (QOp_move _ _ rfl rfl) ?_
                          refine AOps_skip 60 rfl rfl rfl ?_
                          refine AOps_skip 61 rfl rfl rfl ?_
                          refine AOps_skip 62 rfl rfl rfl ?_
                          refine AOps_skip 63 rfl rfl rfl ?_
                          refine AOps_skip 64 rfl rfl rfl ?_
                          refine AOps_skip 65 rfl rfl rfl ?_
                          refine AOps_q 66 _ rfl rfl rfl (QOp_pick_f _ _ _ _ rfl rfl rfl) ?_
                          refine AOps_nil ?_
                          cases h
                          exact Weak_keep 0 hm [0, 1, 2, 8, 9, 10, 11, 12, 13, 14, 15, 66] [] _ _ rfl rfl rfl
                      intro E' H' hw
                      refine ACode_weak hw ?_
                      have h := hks22
                      refine ACode_cond _ rfl (fun hb23 => ?_) (fun hb23 => ?_)
                      · have h := iteT hb23 h
                        refine ACode_seq (ACode_region ?_)
                        refine AOps_q 67 _ rfl rfl rfl (QOp_move _ _ rfl rfl) ?_
                        refine AOps_q 68 _ rfl rfl rfl (QOp_add _ _ _ _ _ _ _ rfl rfl rfl) ?_
                        refine AOps_q 9 _ rfl rfl rfl (QOp_assign _ _ rfl rfl) ?_
                        refine AOps_nil ?_
                        refine (ACode_region ?_)
                        refine AOps_q 69 _ rfl rfl rfl (QOp_move _ _ rfl rfl) ?_
                        refine AOps_q 70 _ rfl rfl rfl (QOp_move _ _ rfl rfl) ?_
                        refine AOps_q 71 _ rfl rfl rfl (QOp_conv _ _ _ _ _ _ rfl rfl Tryd.underlying91 rfl) ?_
                        obtain ⟨hc24, h⟩ := guardO h
                        refine AOps_q 72 _ rfl rfl rfl (QOp_shl _ _ _ _ _ _ _ _ hc24 rfl rfl rfl) ?_
                        refine AOps_q 73 _ rfl rfl rfl (QOp_move _ _ rfl rfl) ?_
                        refine AOps_q 74 _ rfl rfl rfl (QOp_conv _ _ _ _ _ _ rfl rfl Tryd.underlying91 rfl) ?_
                        obtain ⟨hc25, h⟩ := guardO h
                        refine AOps_q 75 _ rfl rfl rfl (QOp_shl _ _ _ _ _ _ _ _ hc25 rfl rfl rfl) ?_
                        refine AOps_q 76 _ rfl rfl rfl (QOp_or _ _ _ _ _ _ _ rfl rfl rfl) ?_
                        refine AOps_q 77 _ rfl rfl rfl (QOp_move _ _ rfl rfl) ?_
                        refine AOps_q 78 _ rfl rfl rfl (QOp_conv _ _ _ _ _ _ rfl rfl Tryd.underlying91 rfl) ?_
                        obtain ⟨hc26, h⟩ := guardO h
                        refine AOps_q 79 _ rfl rfl rfl (QOp_shl _ _ _ _ _ _ _ _ hc26 rfl rfl rfl) ?_
                        refine AOps_q 80 _ rfl rfl rfl (QOp_or _ _ _ _ _ _ _ rfl rfl rfl) ?_
                        refine AOps_q 81 _ rfl rfl rfl (QOp_and _ _ _ _ _ _ _ rfl rfl rfl) ?_
                        refine AOps_q 8 _ rfl rfl rfl (QOp_assign _ _ rfl rfl) ?_
                        refine AOps_nil ?_
                        cases h
                        exact Weak_keep 0 hm [0, 1, 2, 8, 9, 10, 11, 12] [] _ _ rfl rfl rfl
                      · have h := iteF hb23 h
                        refine ACode_skip ?_
                        cases h
                        exact Weak_keep 0 hm [0, 1, 2, 8, 9, 10, 11, 12] [] _ _ rfl rfl rfl
                    intro E' H' hw
                    refine ACode_weak hw ?_
                    have h := hks27
                    refine (ACode_region ?_)
                    refine AOps_q 34 _ rfl rfl rfl (QOp_move _ _ rfl rfl) ?_
                    refine AOps_q 35 _ rfl rfl rfl (QOp_add _ _ _ _ _ _ _ rfl rfl rfl) ?_
                    refine AOps_q 12 _ rfl rfl rfl (QOp_assign _ _ rfl rfl) ?_
                    refine AOps_nil ?_
                    exact ⟨k2, _, _, Nat.lt_succ_self _, Weak_keep 0 hm [0, 1, 2, 8, 9, 10, 11, 12] [] _ _ rfl rfl rfl, _, _, _, rfl, rfl, h⟩
                  · have h := iteF hb13 h
                    refine ACode_exit ?_
                    cases h
                    exact Weak_keep 0 hm [0, 1, 2, 8, 9, 10, 11] [] _ _ rfl rfl rfl
              intro E' H' hw
              refine ACode_weak hw ?_
              have h := hks28
              refine (ACode_region ?_)
              refine AOps_q 29 _ rfl rfl rfl (QOp_move _ _ rfl rfl) ?_
              refine AOps_q 30 _ rfl rfl rfl (QOp_add _ _ _ _ _ _ _ rfl rfl rfl) ?_
              refine AOps_q 11 _ rfl rfl rfl (QOp_assign _ _ rfl rfl) ?_
              refine AOps_nil ?_
              exact ⟨k1, _, _, Nat.lt_succ_self _, Weak_keep 0 hm [0, 1, 2, 8, 9, 10, 11] [] _ _ rfl rfl rfl, _, _, _, rfl, rfl, h⟩
            · have h := iteF hb9 h
              refine ACode_exit ?_
              cases h
              exact Weak_keep 0 hm [0, 1, 2, 8, 9, 10] [] _ _ rfl rfl rfl
        intro E' H' hw
        refine ACode_weak hw ?_
        have h := hks29
        refine (ACode_region ?_)
        refine AOps_q 24 _ rfl rfl rfl (QOp_move _ _ rfl rfl) ?_
        refine AOps_q 25 _ rfl rfl rfl (QOp_add _ _ _ _ _ _ _ rfl rfl rfl) ?_
        refine AOps_q 10 _ rfl rfl rfl (QOp_assign _ _ rfl rfl) ?_
        refine AOps_nil ?_
        exact ⟨k0, _, _, Nat.lt_succ_self _, Weak_keep 0 hm [0, 1, 2, 8, 9, 10] [] _ _ rfl rfl rfl, _, _, _, rfl, rfl, h⟩
      · have h := iteF hb5 h
        refine ACode_exit ?_
        cases h
        exact Weak_keep 0 hm [8, 9] [] _ _ rfl rfl rfl
  intro E' H' hw
  refine ACode_weak hw ?_
  have h := hks30
  refine ACode_seq (ACode_region ?_)
  refine AOps_q 82 _ rfl rfl rfl (QOp_move _ _ rfl rfl) ?_
  refine AOps_q 83 _ rfl rfl rfl (QOp_move _ _ rfl rfl) ?_
  refine AOps_q 6 _ rfl rfl rfl (QOp_assign _ _ rfl rfl) ?_
  refine AOps_q 7 _ rfl rfl rfl (QOp_assign _ _ rfl rfl) ?_
  refine AOps_nil ?_
  refine ACode_ret ?_
  cases h
  exact ⟨_, _, fun r a w h => ⟨r, h⟩, _, _, [], _, (.cons (ResV_tmp _ _ rfl) (.cons (ResV_tmp _ _ rfl) .nil)), rfl, rfl, rfl, rfl, rfl⟩

-- loop.example/g01362/spec.l09Is
def spec_l09Is (k : Nat) (p0 : Int) (p1 : List Int) : Option (Bool) :=
  (spec_l09Mover k p1).bind fun r1 => (letO (if !decide (r1 = 0) then !decide (r1 = 1) else false) fun (s3 : Bool) => (if s3 then some (.inr false) else some (.inl ())) : Option (Sum (Unit) (Bool))).bind fun os5 => (match os5 with | .inl s5 => (spec_l09Common k p0 p1 r1).bind fun r6 => (spec_l09Common k p0 p1 (w64 (1 - r1))).bind fun r7 => letO (if decide (r6.2 = 0) then (if decide (r7.2 = 0) then true else !decide (r7.1 = 0)) else false) fun (s10 : Bool) => some s10 | .inr rr => some rr)
set_option maxRecDepth 100000 in
theorem spec_l09Is_ac (k : Nat) (p0 : Int) (p1 : List Int) (r : Bool) (h : spec_l09Is k p0 p1 = some r) : AC Tryd.prog 40 [iV p0, .d (.sl none (intsD p1))] [] (fun res H' => res = [bV r] ∧ H' = []) := by
  refine AC_of_body true Tryd.func40 rfl Tryd.ntmps40 (rvs := [.tmp 4]) rfl rfl (fun G hG => ?_)
  have hm : G.H.length = 0 := by rw [hG]; rfl
  have hz : zeroG G.H = true := by rw [hG]; rfl
  unfold spec_l09Is at h
  refine ACode_seq (ACode_region ?_)
  refine AOps_q 4 _ rfl rfl rfl (QOp_assign _ _ rfl rfl) ?_
  refine AOps_nil ?_
  refine ACode_seq (ACode_region ?_)
  refine AOps_q 10 _ rfl rfl rfl (QOp_move _ _ rfl rfl) ?_
  obtain ⟨r1, hr1, h⟩ := bindO h
  refine AOps_call [] 11 _ _ _ _ _ _ _ _ _ _ rfl rfl rfl rfl rfl rfl rfl Tryd.call56 rfl (nodupB_sound _ rfl) rfl rfl rfl (spec_l09Mover_ac k p1 _ hr1) ?_
  rintro _ _ ⟨rfl, rfl⟩
  refine ⟨(fun _ h => nomatch h), (allc (trivial) (fun _ h => nomatch h)), AOps_as 11 (v' := iV r1) (H' := []) rfl rfl ?_⟩
  refine AOps_q 5 _ rfl rfl rfl (QOp_assign _ _ rfl rfl) ?_
  refine AOps_nil ?_
  obtain ⟨os5, hss5, hks5⟩ := bindO h
  clear h
  refine ACode_seqJ (fun E' H' => ∃ s5 : Unit, os5 = .inl s5 ∧ Weak 43 G E' H' [(0, iV p0), (1, .d (.sl none (intsD p1))), (5, iV r1)] []) ?_ ?_
  · have h := hss5
    clear hss5
    obtain ⟨s3, hss3, hks3⟩ := letS h
    clear h
    refine ACode_seqJ (fun E' H' => Weak 43 G E' H' [(0, iV p0), (1, .d (.sl none (intsD p1))), (5, iV r1), (17, bV s3)] []) ?_ ?_
    · have h := hss3
      clear hss3
      refine (ACode_region ?_)
      refine AOps_q 12 _ rfl rfl rfl (QOp_move _ _ rfl rfl) ?_
      refine AOps_q 13 _ rfl rfl rfl (QOp_neq _ _ _ _ _ _ _ rfl rfl rfl) ?_
      refine AOps_q 14 _ rfl rfl rfl (QOp_move _ _ rfl rfl) ?_
      refine AOps_case 14 _ rfl (fun hb2 => ?_) (fun hb2 => ?_)
      · have h := iteT hb2 h
        refine AOps_q 15 _ rfl rfl rfl (QOp_move _ _ rfl rfl) ?_
        refine AOps_q 16 _ rfl rfl rfl (QOp_neq _ _ _ _ _ _ _ rfl rfl rfl) ?_
        refine AOps_q 17 _ rfl rfl rfl (QOp_pick_t _ _ _ _ rfl rfl rfl) ?_
        refine AOps_nil ?_
        cases h
        exact Weak_keep 0 hm [0, 1, 5, 17] [] _ _ rfl rfl rfl
      · have h := iteF hb2 h
        refine AOps_skip 15 rfl rfl rfl ?_
        refine AOps_skip 16 rfl rfl rfl ?_
        refine AOps_q 17 _ rfl rfl rfl (QOp_pick_f _ _ _ _ rfl rfl rfl) ?_
        refine AOps_nil ?_
        cases h
        exact Weak_keep 0 hm [0, 1, 5, 17] [] _ _ rfl rfl rfl
    intro E' H' hw
    refine ACode_weak hw ?_
    have h := hks3
    refine ACode_cond _ rfl (fun hb4 => ?_) (fun hb4 => ?_)
    · have h := iteT hb4 h
      refine ACode_seq (ACode_region ?_)
      refine AOps_q 4 _ rfl rfl rfl (QOp_assign _ _ rfl rfl) ?_
      refine AOps_nil ?_
      refine ACode_ret ?_
      cases h
      have h := hks5
      cases h
      exact ⟨_, _, fun r a w h => ⟨r, h⟩, _, _, [], _, (.cons (ResV_tmp _ _ rfl) .nil), rfl, rfl, rfl, rfl, rfl⟩
    · have h := iteF hb4 h
      refine ACode_skip ?_
      cases h
      exact ⟨_, rfl, Weak_keep 0 hm [0, 1, 5] [] _ _ rfl rfl rfl⟩
  rintro E' H' ⟨s5, rfl, hw⟩
  refine ACode_weak hw ?_
  have h := hks5
  refine ACode_seq (ACode_region ?_)
  refine AOps_q 19 _ rfl rfl rfl (QOp_move _ _ rfl rfl) ?_
  refine AOps_q 20 _ rfl rfl rfl (QOp_move _ _ rfl rfl) ?_
  refine AOps_q 21 _ rfl rfl rfl (QOp_move _ _ rfl rfl) ?_
  obtain ⟨r6, hr6, h⟩ := bindO h
  refine AOps_call [] 22 _ _ _ _ _ _ _ _ _ _ rfl rfl rfl rfl rfl rfl rfl Tryd.call57 rfl (nodupB_sound _ rfl) rfl rfl rfl (spec_l09Common_ac k p0 p1 r1 _ hr6) ?_
  rintro _ _ ⟨rfl, rfl⟩
  refine ⟨(fun _ h => nomatch h), (allc (trivial) (allc (trivial) (fun _ h => nomatch h))), AOps_as 22 (v' := .tup [iV r6.1, iV r6.2]) (H' := []) rfl rfl ?_⟩
  refine AOps_q 18 _ rfl rfl rfl (QOp_move _ _ rfl rfl) ?_
  refine AOps_q 23 _ rfl rfl rfl (QOp_extract _ _ _ _ rfl rfl rfl) ?_
  refine AOps_q 24 _ rfl rfl rfl (QOp_extract _ _ _ _ rfl rfl rfl) ?_
  refine AOps_q 6 _ rfl rfl rfl (QOp_assign _ _ rfl rfl) ?_
  refine AOps_q 7 _ rfl rfl rfl (QOp_assign _ _ rfl rfl) ?_
  refine AOps_nil ?_
  refine ACode_seq (ACode_region ?_)
  refine AOps_q 26 _ rfl rfl rfl (QOp_move _ _ rfl rfl) ?_
  refine AOps_q 27 _ rfl rfl rfl (QOp_move _ _ rfl rfl) ?_
  refine AOps_q 28 _ rfl rfl rfl (QOp_move _ _ rfl rfl) ?_
  refine AOps_q 29 _ rfl rfl rfl (QOp_sub _ _ _ _ _ _ _ rfl rfl rfl) ?_
  obtain ⟨r7, hr7, h⟩ := bindO h
  refine AOps_call [] 30 _ _ _ _ _ _ _ _ _ _ rfl rfl rfl rfl rfl rfl rfl Tryd.call57 rfl (nodupB_sound _ rfl) rfl rfl rfl (spec_l09Common_ac k p0 p1 (w64 (1 - r1)) _ hr7) ?_
  rintro _ _ ⟨rfl, rfl⟩
  refine ⟨(fun _ h => nomatch h), (allc (trivial) (allc (trivial) (fun _ h => nomatch h))), AOps_as 30 (v' := .tup [iV r7.1, iV r7.2]) (H' := []) rfl rfl ?_⟩
  refine AOps_q 25 _ rfl rfl rfl (QOp_move _ _ rfl rfl) ?_
  refine AOps_q 31 _ rfl rfl rfl (QOp_extract _ _ _ _ rfl rfl rfl) ?_
  refine AOps_q 32 _ rfl rfl rfl (QOp_extract _ _ _ _ rfl rfl rfl) ?_
  refine AOps_q 8 _ rfl rfl rfl (QOp_assign _ _ rfl rfl) ?_
  refine AOps_q 9 _ rfl rfl rfl (QOp_assign _ _ rfl rfl) ?_
  refine AOps_nil ?_
  obtain ⟨s10, hss10, hks10⟩ := letS h
  clear h
  refine ACode_seqJ (fun E' H' => Weak 43 G E' H' [(4, bV s10)] []) ?_ ?_
  · have h := hss10
    clear hss10
    refine (ACode_region ?_)
    refine AOps_q 33 _ rfl rfl rfl (QOp_move _ _ rfl rfl) ?_
    refine AOps_q 34 _ rfl rfl rfl (QOp_eql _ _ _ _ _ _ _ rfl rfl rfl) ?_
    refine AOps_q 35 _ rfl rfl rfl (QOp_move _ _ rfl rfl) ?_
    refine AOps_case 35 _ rfl (fun hb8 => ?_) (fun hb8 => ?_)
    · have h := iteT hb8 h
      refine AOps_q 36 _ rfl rfl rfl (QOp_move _ _ rfl rfl) ?_
      refine AOps_q 37 _ rfl rfl rfl (QOp_eql _ _ _ _ _ _ _ rfl rfl rfl) ?_
      refine AOps_q 38 _ rfl rfl rfl (QOp_move _ _ rfl rfl) ?_
      refine AOps_case 38 _ rfl (fun hb9 => ?_) (fun hb9 => ?_)
      · have h := iteT hb9 h
        refine AOps_skip 39 rfl rfl rfl ?_
        refine AOps_skip 40 rfl rfl rfl ?_
        refine AOps_q 41 _ rfl rfl rfl (QOp_pick_t _ _ _ _ rfl rfl rfl) ?_
        refine AOps_q 42 _ rfl rfl rfl (QOp_pick_t _ _ _ _ rfl rfl rfl) ?_
        refine AOps_q 4 _ rfl rfl rfl (QOp_assign _ _ rfl rfl) ?_
        refine AOps_nil ?_
        cases h
        exact Weak_keep 0 hm [4] [] _ _ rfl rfl rfl
      · have h := iteF hb9 h
        refine AOps_q 39 _ rfl rfl rfl (QOp_move _ _ rfl rfl) ?_
        refine AOps_q 40 _ rfl rfl rfl (QOp_neq _ _ _ _ _ _ _ rfl rfl rfl) ?_
        refine AOps_q 41 _ rfl rfl rfl (QOp_pick_f _ _ _ _ rfl rfl rfl) ?_
        refine AOps_q 42 _ rfl rfl rfl (QOp_pick_t _ _ _ _ rfl rfl rfl) ?_
        refine AOps_q 4 _ rfl rfl rfl (QOp_assign _ _ rfl rfl) ?_
        refine AOps_nil ?_
        cases h
        exact Weak_keep 0 hm [4] [] _ _ rfl rfl rfl
    · have h := iteF hb8 h
      refine AOps_skip 36 rfl rfl rfl ?_
      refine AOps_skip 37 rfl rfl rfl ?_
      refine AOps_skip 38 rfl rfl rfl ?_
      refine AOps_skip 39 rfl rfl rfl ?_
      refine AOps_skip 40 rfl rfl rfl ?_
      refine AOps_skip 41 rfl rfl rfl ?_
      refine AOps_q 42 _ rfl rfl rfl (QOp_pick_f _ _ _ _ rfl rfl rfl) ?_
      refine AOps_q 4 _ rfl rfl rfl (QOp_assign _ _ rfl rfl) ?_
      refine AOps_nil ?_
      cases h
      exact Weak_keep 0 hm [4] [] _ _ rfl rfl rfl
  intro E' H' hw
  refine ACode_weak hw ?_
  have h := hks10
  refine ACode_ret ?_
  cases h
  exact ⟨_, _, fun r a w h => ⟨r, h⟩, _, _, [], _, (.cons (ResV_tmp _ _ rfl) .nil), rfl, rfl, rfl, rfl, rfl⟩

-- loop.example/g01362/spec.l09Code
def spec_l09Code (k : Nat) (p0 : Int) (p1 : List Int) : Option (Int) :=
  (spec_l09Lists k p0 p1).bind fun r1 => (if !decide (r1 = 0) then some r1 else (spec_l09Is k p0 p1).bind fun r3 => (if !r3 then some 1 else some 0))
set_option maxRecDepth 100000 in
theorem spec_l09Code_ac (k : Nat) (p0 : Int) (p1 : List Int) (r : Int) (h : spec_l09Code k p0 p1 = some r) : AC Tryd.prog 23 [iV p0, .d (.sl none (intsD p1))] [] (fun res H' => res = [iV r] ∧ H' = []) := by
  refine AC_of_body true Tryd.func23 rfl Tryd.ntmps23 (rvs := [.tmp 4]) rfl rfl (fun G hG => ?_)
  have hm : G.H.length = 0 := by rw [hG]; rfl
  have hz : zeroG G.H = true := by rw [hG]; rfl
  unfold spec_l09Code at h
  refine ACode_seq (ACode_region ?_)
  refine AOps_q 4 _ rfl rfl rfl (QOp_assign _ _ rfl rfl) ?_
  refine AOps_nil ?_
  refine ACode_seq ?_
  refine ACode_seq (ACode_region ?_)
  refine AOps_q 6 _ rfl rfl rfl (QOp_move _ _ rfl rfl) ?_
  refine AOps_q 7 _ rfl rfl rfl (QOp_move _ _ rfl rfl) ?_
  obtain ⟨r1, hr1, h⟩ := bindO h
  refine AOps_call [] 8 _ _ _ _ _ _ _ _ _ _ rfl rfl rfl rfl rfl rfl rfl Tryd.call39 rfl (nodupB_sound _ rfl) rfl rfl rfl (spec_l09Lists_ac k p0 p1 _ hr1) ?_
  rintro _ _ ⟨rfl, rfl⟩
  refine ⟨(fun _ h => nomatch h), (allc (trivial) (fun _ h => nomatch h)), AOps_as 8 (v' := iV r1) (H' := []) rfl rfl ?_⟩
  refine AOps_q 5 _ rfl rfl rfl (QOp_assign _ _ rfl rfl) ?_
  refine AOps_nil ?_
  refine ACode_seq (ACode_region ?_)
  refine AOps_q 9 _ rfl rfl rfl (QOp_move _ _ rfl rfl) ?_
  refine AOps_q 10 _ rfl rfl rfl (QOp_neq _ _ _ _ _ _ _ rfl rfl rfl) ?_
  refine AOps_nil ?_
  refine ACode_cond _ rfl (fun hb2 => ?_) (fun hb2 => ?_)
  · have h := iteT hb2 h
    refine ACode_seq (ACode_region ?_)
    refine AOps_q 11 _ rfl rfl rfl (QOp_move _ _ rfl rfl) ?_
    refine AOps_q 4 _ rfl rfl rfl (QOp_assign _ _ rfl rfl) ?_
    refine AOps_nil ?_
    refine ACode_ret ?_
    cases h
    exact ⟨_, _, fun r a w h => ⟨r, h⟩, _, _, [], _, (.cons (ResV_tmp _ _ rfl) .nil), rfl, rfl, rfl, rfl, rfl⟩
  · have h := iteF hb2 h
    refine ACode_skip ?_
    refine ACode_seq ?_
    refine ACode_seq (ACode_region ?_)
    refine AOps_q 12 _ rfl rfl rfl (QOp_move _ _ rfl rfl) ?_
    refine AOps_q 13 _ rfl rfl rfl (QOp_move _ _ rfl rfl) ?_
    obtain ⟨r3, hr3, h⟩ := bindO h
    refine AOps_call [] 14 _ _ _ _ _ _ _ _ _ _ rfl rfl rfl rfl rfl rfl rfl Tryd.call40 rfl (nodupB_sound _ rfl) rfl rfl rfl (spec_l09Is_ac k p0 p1 _ hr3) ?_
    rintro _ _ ⟨rfl, rfl⟩
    refine ⟨(fun _ h => nomatch h), (allc (trivial) (fun _ h => nomatch h)), AOps_as 14 (v' := bV r3) (H' := []) rfl rfl ?_⟩
    refine AOps_q 15 _ rfl rfl rfl (QOp_not _ _ _ rfl rfl) ?_
    refine AOps_nil ?_
    refine ACode_cond _ rfl (fun hb4 => ?_) (fun hb4 => ?_)
    · have h := iteT hb4 h
      refine ACode_seq (ACode_region ?_)
      refine AOps_q 4 _ rfl rfl rfl (QOp_assign _ _ rfl rfl) ?_
      refine AOps_nil ?_
      refine ACode_ret ?_
      cases h
      exact ⟨_, _, fun r a w h => ⟨r, h⟩, _, _, [], _, (.cons (ResV_tmp _ _ rfl) .nil), rfl, rfl, rfl, rfl, rfl⟩
    · have h := iteF hb4 h
      refine ACode_skip ?_
      refine ACode_seq (ACode_region ?_)
      refine AOps_q 4 _ rfl rfl rfl (QOp_assign _ _ rfl rfl) ?_
      refine AOps_nil ?_
      refine ACode_ret ?_
      cases h
      exact ⟨_, _, fun r a w h => ⟨r, h⟩, _, _, [], _, (.cons (ResV_tmp _ _ rfl) .nil), rfl, rfl, rfl, rfl, rfl⟩

-- loop.example/g01362/spec.l09Read
def spec_l09Read_l0 (r1 : List ByteArray) : Nat → Int → (List Int) → Option (Sum (List Int) (Int × List Int × Bool))
  | 0, _, _ => none
  | k0 + 1, x3, x4 => (if 0 ≤ (1 : Int) ∧ (1 : Int) < (r1.length : Int) then (if decide (x3 < ((r1.getD (1 : Int).toNat ByteArray.empty).size : Int)) then ((if 0 ≤ (1 : Int) ∧ (1 : Int) < (r1.length : Int) then (if 0 ≤ x3 ∧ x3 < (((r1.getD (1 : Int).toNat ByteArray.empty) : ByteArray).size : Int) then (if decide (((((r1.getD (1 : Int).toNat ByteArray.empty) : ByteArray).data.toList.getD x3.toNat 0).toNat : Int) = 46) then (if x4.length + ([(-1)]).length ≤ 1099511627776 then some (.inl (x4 ++ ([(-1)]))) else none) else (if decide (((((r1.getD (1 : Int).toNat ByteArray.empty) : ByteArray).data.toList.getD x3.toNat 0).toNat : Int) = 48) then (if x4.length + ([0]).length ≤ 1099511627776 then some (.inl (x4 ++ ([0]))) else none) else (if decide (((((r1.getD (1 : Int).toNat ByteArray.empty) : ByteArray).data.toList.getD x3.toNat 0).toNat : Int) = 49) then (if x4.length + ([1]).length ≤ 1099511627776 then some (.inl (x4 ++ ([1]))) else none) else (some (.inr (0, [], false))).bind fun rr => some (.inr rr)))) else none) else none) : Option (Sum (List Int) (Sum (List Int) (Int × List Int × Bool)))).bind fun os15 => (match os15 with | .inl s15 => spec_l09Read_l0 r1 k0 (w64 (x3 + 1)) s15 | .inr rr => some rr) else some (.inl x4)) else none)
def spec_l09Read (k : Nat) (p0 : ByteArray) : Option (Int × List Int × Bool) :=
  (spec_l01Split k p0 58).bind fun r1 => (if !decide ((r1.length : Int) = 2) then some (0, [], false) else (spec_l09Read_l0 r1 k 0 ([] : List Int) : Option (Sum (List Int) (Int × List Int × Bool))).bind fun os16 => (match os16 with | .inl s16 => (if 0 ≤ (0 : Int) ∧ (0 : Int) < (r1.length : Int) then (spec_l01Number k (r1.getD (0 : Int).toNat ByteArray.empty)).bind fun r18 => (spec_l09Code k r18 s16).bind fun r19 => (if !decide (r19 = 0) then some (0, [], false) else some (r18, s16, true)) else none) | .inr rr => some rr))
set_option maxRecDepth 100000 in
theorem spec_l09Read_ac (k : Nat) (p0 : ByteArray) (r : Int × List Int × Bool) (h : spec_l09Read k p0 = some r) : AC Tryd.prog 28 [.d (.s (.string p0))] [] (fun res H' => res = [iV r.1, .d (.sl none (intsD r.2.1)), bV r.2.2] ∧ H' = []) := by
  refine AC_of_body true Tryd.func28 rfl Tryd.ntmps28 (rvs := [.tmp 2, .tmp 3, .tmp 4]) rfl rfl (fun G hG => ?_)
  have hm : G.H.length = 0 := by rw [hG]; rfl
  have hz : zeroG G.H = true := by rw [hG]; rfl
  unfold spec_l09Read at h
  refine ACode_seq (ACode_region ?_)
  refine AOps_q 2 _ rfl rfl rfl (QOp_assign _ _ rfl rfl) ?_
  refine AOps_q 3 _ rfl rfl rfl (QOp_assign _ _ rfl rfl) ?_
  refine AOps_q 4 _ rfl rfl rfl (QOp_assign _ _ rfl rfl) ?_
  refine AOps_nil ?_
  refine ACode_seq (ACode_region ?_)
  refine AOps_q 9 _ rfl rfl rfl (QOp_move _ _ rfl rfl) ?_
  obtain ⟨r1, hr1, h⟩ := bindO h
  refine AOps_call [] 10 _ _ _ _ _ _ _ _ _ _ rfl rfl rfl rfl rfl rfl rfl Tryd.call44 rfl (nodupB_sound _ rfl) rfl rfl rfl (spec_l01Split_ac k p0 58 _ hr1) ?_
  rintro _ _ ⟨rfl, rfl⟩
  refine ⟨(allc (fun _ _ => trivial) (fun _ h => nomatch h)), (allc (trivial) (fun _ h => nomatch h)), AOps_as 10 (v' := .vec 0 0) (H' := [.vec 0 (stsD r1)]) rfl rfl ?_⟩
  refine AOps_buildSlice 11 _ _ _ [] (intsD ([] : List Int)) _ rfl rfl rfl rfl rfl (by decide) Tryd.underlying30 Tryd.sizeOf2 (zero_of Tryd.typeInfo2 rfl) rfl rfl (intsD_one _) ?_
  refine AOps_q 5 _ rfl rfl rfl (QOp_assign _ _ rfl rfl) ?_
  refine AOps_q 6 _ rfl rfl rfl (QOp_assign _ _ rfl rfl) ?_
  refine AOps_nil ?_
  refine ACode_seq ?_
  refine ACode_seq (ACode_region ?_)
  refine AOps_q 12 _ rfl rfl rfl (QOp_move _ _ rfl rfl) ?_
  refine AOps_q 13 _ rfl rfl rfl (QOp_len_vec _ _ _ _ _ _ _ _ (stsD_length _) rfl rfl rfl rfl Tryd.underlying60 rfl rfl) ?_
  refine AOps_q 14 _ rfl rfl rfl (QOp_neq _ _ _ _ _ _ _ rfl rfl rfl) ?_
  refine AOps_nil ?_
  refine ACode_cond _ rfl (fun hb2 => ?_) (fun hb2 => ?_)
  · have h := iteT hb2 h
    refine ACode_seq (ACode_region ?_)
    refine AOps_q 2 _ rfl rfl rfl (QOp_assign _ _ rfl rfl) ?_
    refine AOps_q 3 _ rfl rfl rfl (QOp_assign _ _ rfl rfl) ?_
    refine AOps_q 4 _ rfl rfl rfl (QOp_assign _ _ rfl rfl) ?_
    refine AOps_nil ?_
    refine ACode_ret ?_
    cases h
    exact ⟨_, _, fun r a w h => ⟨r, h⟩, _, _, [], _, (.cons (ResV_tmp _ _ rfl) (.cons (ResV_tmp _ _ rfl) (.cons (ResV_tmp _ _ rfl) .nil))), rfl, rfl, rfl, rfl, rfl⟩
  · have h := iteF hb2 h
    refine ACode_skip ?_
    obtain ⟨os16, hss16, hks16⟩ := bindO h
    clear h
    refine ACode_seqJ (fun E' H' => ∃ s16 : List Int, os16 = .inl s16 ∧ Weak 53 G E' H' [(5, .vec 0 0), (6, .vec 1 0)] [.vec 0 (stsD r1), .vec 0 (intsD s16)]) ?_ ?_
    · have h := hss16
      clear hss16
      refine ACode_seq (ACode_region ?_)
      refine AOps_q 7 _ rfl rfl rfl (QOp_assign _ _ rfl rfl) ?_
      refine AOps_nil ?_
      refine ACode_block ?_
      refine ACode_loopW (fun k0 E H => ∃ (x3 : Int) (x4 : List Int), E = [(5, .vec 0 0), (6, .vec 1 0), (7, iV x3)] ∧ H = [.vec 0 (stsD r1), .vec 0 (intsD x4)] ∧ spec_l09Read_l0 r1 k0 x3 x4 = some os16) k _ _ (Weak_keep 0 hm [5, 6, 7] [0, 1] _ _ rfl rfl rfl) ⟨_, _, rfl, rfl, h⟩ ?_
      clear h
      rintro k0 E H ⟨x3, x4, rfl, rfl, h⟩
      cases k0 with
      | zero => cases (show (none : Option (Sum (List Int) (Int × List Int × Bool))) = some _ from h)
      | succ k0 =>
        rw [spec_l09Read_l0] at h
        refine ACode_seq ?_
        refine ACode_seq (ACode_region ?_)
        refine AOps_q 15 _ rfl rfl rfl (QOp_move _ _ rfl rfl) ?_
        refine AOps_q 16 _ rfl rfl rfl (QOp_move _ _ rfl rfl) ?_
        obtain ⟨hc5, h⟩ := guardO h
        refine AOps_q 17 _ rfl rfl rfl (QOp_indexAddr_vec _ _ _ _ _ _ _ _ _ rfl Tryd.underlying60 Tryd.sizeOf9 hc5.1 (by rw [stsD_length]; exact hc5.2) rfl rfl rfl) ?_
        refine AOps_q 18 _ rfl rfl rfl (QOp_load_eptr _ _ _ _ _ _ _ rfl Tryd.isAgg9 rfl rfl (stsD_get _ _ ByteArray.empty (by omega))) ?_
        refine AOps_q 19 _ rfl rfl rfl (QOp_len_str _ _ _ _ rfl rfl rfl rfl Tryd.underlying9 rfl) ?_
        refine AOps_q 20 _ rfl rfl rfl (QOp_lss _ _ _ _ _ _ _ rfl rfl rfl) ?_
        refine AOps_nil ?_
        refine ACode_cond _ rfl (fun hb6 => ?_) (fun hb6 => ?_)
        · have h := iteT hb6 h
          refine ACode_skip ?_
          obtain ⟨os15, hss15, hks15⟩ := bindO h
          clear h
          refine ACode_seqJ (fun E' H' => ∃ s15 : List Int, os15 = .inl s15 ∧ Weak 53 G E' H' [(5, .vec 0 0), (6, .vec 1 0), (7, iV x3)] [.vec 0 (stsD r1), .vec 0 (intsD s15)]) ?_ ?_
          · have h := hss15
            clear hss15
            refine ACode_block ?_
            refine ACode_seq (ACode_region ?_)
            refine AOps_q 23 _ rfl rfl rfl (QOp_move _ _ rfl rfl) ?_
            obtain ⟨hc7, h⟩ := guardO h
            refine AOps_q 24 _ rfl rfl rfl (QOp_indexAddr_vec _ _ _ _ _ _ _ _ _ rfl Tryd.underlying60 Tryd.sizeOf9 hc7.1 (by rw [stsD_length]; exact hc7.2) rfl rfl rfl) ?_
            refine AOps_q 25 _ rfl rfl rfl (QOp_load_eptr _ _ _ _ _ _ _ rfl Tryd.isAgg9 rfl rfl (stsD_get _ _ ByteArray.empty (by omega))) ?_
            refine AOps_q 26 _ rfl rfl rfl (QOp_move _ _ rfl rfl) ?_
            obtain ⟨hc8, h⟩ := guardO h
            refine AOps_q 27 _ rfl rfl rfl (QOp_sindex _ _ _ _ _ _ rfl Tryd.underlying9 hc8.1 hc8.2 rfl rfl) ?_
            refine AOps_nil ?_
            refine ACode_block ?_
            refine ACode_seq (ACode_region ?_)
            refine AOps_q 29 _ rfl rfl rfl (QOp_eql _ _ _ _ _ _ _ rfl rfl rfl) ?_
            refine AOps_q 28 _ rfl rfl rfl (QOp_assign _ _ rfl rfl) ?_
            refine AOps_nil ?_
            refine ACode_cond _ rfl (fun hb9 => ?_) (fun hb9 => ?_)
            · have h := iteT hb9 h
              refine (ACode_region ?_)
              refine AOps_q 30 _ rfl rfl rfl (QOp_move _ _ rfl rfl) ?_
              refine AOps_buildSlice 31 _ _ _ [_] (intsD ([(-1)])) _ rfl rfl rfl rfl rfl (by decide) Tryd.underlying30 Tryd.sizeOf2 (zero_of Tryd.typeInfo2 rfl) rfl rfl (intsD_one _) ?_
              obtain ⟨hc10, h⟩ := guardO h
              refine AOps_append 32 _ _ _ _ _ _ _ _ _ _ _ _ rfl rfl rfl rfl rfl rfl rfl Tryd.underlying30 Tryd.type2 rfl rfl rfl (by decide) rfl rfl rfl rfl (intsD_one _) (by rw [intsD_length, intsD_length]; exact hc10) ?_
              rw [intsD_app]
              refine AOps_q 6 _ rfl rfl rfl (QOp_assign _ _ rfl rfl) ?_
              refine AOps_nil ?_
              cases h
              exact ⟨_, rfl, Weak_trans (Weak_keep 0 hm [5, 6, 7] [0, 1] _ _ rfl rfl rfl) (Weak_reset 0 hm hz [5, 6, 7] _ _ rfl rfl)⟩
            · have h := iteF hb9 h
              refine ACode_seq (ACode_region ?_)
              refine AOps_q 34 _ rfl rfl rfl (QOp_eql _ _ _ _ _ _ _ rfl rfl rfl) ?_
              refine AOps_q 33 _ rfl rfl rfl (QOp_assign _ _ rfl rfl) ?_
              refine AOps_nil ?_
              refine ACode_cond _ rfl (fun hb11 => ?_) (fun hb11 => ?_)
              · have h := iteT hb11 h
                refine (ACode_region ?_)
                refine AOps_q 35 _ rfl rfl rfl (QOp_move _ _ rfl rfl) ?_
                refine AOps_buildSlice 36 _ _ _ [_] (intsD ([0])) _ rfl rfl rfl rfl rfl (by decide) Tryd.underlying30 Tryd.sizeOf2 (zero_of Tryd.typeInfo2 rfl) rfl rfl (intsD_one _) ?_
                obtain ⟨hc12, h⟩ := guardO h
                refine AOps_append 37 _ _ _ _ _ _ _ _ _ _ _ _ rfl rfl rfl rfl rfl rfl rfl Tryd.underlying30 Tryd.type2 rfl rfl rfl (by decide) rfl rfl rfl rfl (intsD_one _) (by rw [intsD_length, intsD_length]; exact hc12) ?_
                rw [intsD_app]
                refine AOps_q 6 _ rfl rfl rfl (QOp_assign _ _ rfl rfl) ?_
                refine AOps_nil ?_
                cases h
                exact ⟨_, rfl, Weak_trans (Weak_keep 0 hm [5, 6, 7] [0, 1] _ _ rfl rfl rfl) (Weak_reset 0 hm hz [5, 6, 7] _ _ rfl rfl)⟩
              · have h := iteF hb11 h
                refine ACode_seq (ACode_region ?_)
                refine AOps_q 39 _ rfl rfl rfl (QOp_eql _ _ _ _ _ _ _ rfl rfl rfl) ?_
                refine AOps_q 38 _ rfl rfl rfl (QOp_assign _ _ rfl rfl) ?_
                refine AOps_nil ?_
                refine ACode_cond _ rfl (fun hb13 => ?_) (fun hb13 => ?_)
                · have h := iteT hb13 h
                  refine (ACode_region ?_)
                  refine AOps_q 40 _ rfl rfl rfl (QOp_move _ _ rfl rfl) ?_
                  refine AOps_buildSlice 41 _ _ _ [_] (intsD ([1])) _ rfl rfl rfl rfl rfl (by decide) Tryd.underlying30 Tryd.sizeOf2 (zero_of Tryd.typeInfo2 rfl) rfl rfl (intsD_one _) ?_
                  obtain ⟨hc14, h⟩ := guardO h
                  refine AOps_append 42 _ _ _ _ _ _ _ _ _ _ _ _ rfl rfl rfl rfl rfl rfl rfl Tryd.underlying30 Tryd.type2 rfl rfl rfl (by decide) rfl rfl rfl rfl (intsD_one _) (by rw [intsD_length, intsD_length]; exact hc14) ?_
                  rw [intsD_app]
                  refine AOps_q 6 _ rfl rfl rfl (QOp_assign _ _ rfl rfl) ?_
                  refine AOps_nil ?_
                  cases h
                  exact ⟨_, rfl, Weak_trans (Weak_keep 0 hm [5, 6, 7] [0, 1] _ _ rfl rfl rfl) (Weak_reset 0 hm hz [5, 6, 7] _ _ rfl rfl)⟩
                · have h := iteF hb13 h
                  refine ACode_seq (ACode_region ?_)
                  refine AOps_q 2 _ rfl rfl rfl (QOp_assign _ _ rfl rfl) ?_
                  refine AOps_q 3 _ rfl rfl rfl (QOp_assign _ _ rfl rfl) ?_
                  refine AOps_q 4 _ rfl rfl rfl (QOp_assign _ _ rfl rfl) ?_
                  refine AOps_nil ?_
                  refine ACode_ret ?_
                  obtain ⟨rr, hz21, h2⟩ := bindO h
                  obtain rfl := Option.some.inj h2
                  obtain rfl := Option.some.inj (show some rr = some _ from hks15)
                  have h := hz21
                  cases h
                  have h := hks16
                  cases h
                  exact ⟨_, _, fun r a w h => ⟨r, h⟩, _, _, [], _, (.cons (ResV_tmp _ _ rfl) (.cons (ResV_tmp _ _ rfl) (.cons (ResV_tmp _ _ rfl) .nil))), rfl, rfl, rfl, rfl, rfl⟩
          rintro E' H' ⟨s15, rfl, hw⟩
          refine ACode_weak hw ?_
          have h := hks15
          refine (ACode_region ?_)
          refine AOps_q 21 _ rfl rfl rfl (QOp_move _ _ rfl rfl) ?_
          refine AOps_q 22 _ rfl rfl rfl (QOp_add _ _ _ _ _ _ _ rfl rfl rfl) ?_
          refine AOps_q 7 _ rfl rfl rfl (QOp_assign _ _ rfl rfl) ?_
          refine AOps_nil ?_
          exact ⟨k0, _, _, Nat.lt_succ_self _, Weak_keep 0 hm [5, 6, 7] [0, 1] _ _ rfl rfl rfl, _, _, rfl, rfl, h⟩
        · have h := iteF hb6 h
          refine ACode_exit ?_
          cases h
          exact ⟨_, rfl, Weak_keep 0 hm [5, 6] [0, 1] _ _ rfl rfl rfl⟩
    rintro E' H' ⟨s16, rfl, hw⟩
    refine ACode_weak hw ?_
    have h := hks16
    refine ACode_seq (ACode_region ?_)
    refine AOps_q 43 _ rfl rfl rfl (QOp_move _ _ rfl rfl) ?_
    obtain ⟨hc17, h⟩ := guardO h
    refine AOps_q 44 _ rfl rfl rfl (QOp_indexAddr_vec _ _ _ _ _ _ _ _ _ rfl Tryd.underlying60 Tryd.sizeOf9 hc17.1 (by rw [stsD_length]; exact hc17.2) rfl rfl rfl) ?_
    refine AOps_q 45 _ rfl rfl rfl (QOp_load_eptr _ _ _ _ _ _ _ rfl Tryd.isAgg9 rfl rfl (stsD_get _ _ ByteArray.empty (by omega))) ?_
    obtain ⟨r18, hr18, h⟩ := bindO h
    refine AOps_call [] 46 _ _ _ _ _ _ _ _ _ _ rfl rfl rfl rfl rfl rfl rfl Tryd.call45 rfl (nodupB_sound _ rfl) rfl rfl rfl (spec_l01Number_ac k (r1.getD (0 : Int).toNat ByteArray.empty) _ hr18) ?_
    rintro _ _ ⟨rfl, rfl⟩
    refine ⟨(fun _ h => nomatch h), (allc (trivial) (fun _ h => nomatch h)), AOps_as 46 (v' := iV r18) (H' := [.vec 0 (stsD r1), .vec 0 (intsD s16)]) rfl rfl ?_⟩
    refine AOps_q 8 _ rfl rfl rfl (QOp_assign _ _ rfl rfl) ?_
    refine AOps_nil ?_
    refine ACode_seq ?_
    refine ACode_seq (ACode_region ?_)
    refine AOps_q 47 _ rfl rfl rfl (QOp_move _ _ rfl rfl) ?_
    refine AOps_q 48 _ rfl rfl rfl (QOp_move _ _ rfl rfl) ?_
    obtain ⟨r19, hr19, h⟩ := bindO h
    refine AOps_callL [] 49 _ _ _ _ _ _ _ _ _ _ rfl rfl rfl rfl rfl rfl rfl Tryd.call23 rfl (nodupB_sound _ rfl) rfl rfl rfl (spec_l09Code_ac k r18 s16 _ hr19) ?_
    rintro _ _ ⟨rfl, rfl⟩
    refine ⟨(fun _ h => nomatch h), (allc (flat_s _) (fun _ h => nomatch h)), AOps_as 49 (v' := iV r19) (H' := [.vec 0 (stsD r1), .vec 0 (intsD s16)]) rfl rfl ?_⟩
    refine AOps_q 50 _ rfl rfl rfl (QOp_neq _ _ _ _ _ _ _ rfl rfl rfl) ?_
    refine AOps_nil ?_
    refine ACode_cond _ rfl (fun hb20 => ?_) (fun hb20 => ?_)
    · have h := iteT hb20 h
      refine ACode_seq (ACode_region ?_)
      refine AOps_q 2 _ rfl rfl rfl (QOp_assign _ _ rfl rfl) ?_
      refine AOps_q 3 _ rfl rfl rfl (QOp_assign _ _ rfl rfl) ?_
      refine AOps_q 4 _ rfl rfl rfl (QOp_assign _ _ rfl rfl) ?_
      refine AOps_nil ?_
      refine ACode_ret ?_
      cases h
      exact ⟨_, _, fun r a w h => ⟨r, h⟩, _, _, [], _, (.cons (ResV_tmp _ _ rfl) (.cons (ResV_tmp _ _ rfl) (.cons (ResV_tmp _ _ rfl) .nil))), rfl, rfl, rfl, rfl, rfl⟩
    · have h := iteF hb20 h
      refine ACode_skip ?_
      refine ACode_seq (ACode_region ?_)
      refine AOps_q 51 _ rfl rfl rfl (QOp_move _ _ rfl rfl) ?_
      refine AOps_q 52 _ rfl rfl rfl (QOp_move _ _ rfl rfl) ?_
      refine AOps_q 2 _ rfl rfl rfl (QOp_assign _ _ rfl rfl) ?_
      refine AOps_q 3 _ rfl rfl rfl (QOp_assign _ _ rfl rfl) ?_
      refine AOps_q 4 _ rfl rfl rfl (QOp_assign _ _ rfl rfl) ?_
      refine AOps_nil ?_
      refine ACode_ret ?_
      cases h
      exact ⟨_, _, fun r a w h => ⟨r, h⟩, _, _, [], _, (.cons (ResV_tmp _ _ rfl) (.cons (ResV_tmp _ _ rfl) (.cons (ResV_tmp _ _ rfl) .nil))), rfl, rfl, rfl, rfl, rfl⟩

-- loop.example/g01362/spec.ParsePosition
def spec_ParsePosition (k : Nat) (p0 : ByteArray) : Option (Int × List Int × Int) :=
  (spec_l09Read k p0).bind fun r1 => (if !r1.2.2 then some (0, [], 6) else some (r1.1, r1.2.1, 0))
set_option maxRecDepth 100000 in
theorem spec_ParsePosition_ac (k : Nat) (p0 : ByteArray) (r : Int × List Int × Int) (h : spec_ParsePosition k p0 = some r) : AC Tryd.prog 13 [.d (.s (.string p0))] [] (fun res H' => res = [iV r.1, .d (.sl none (intsD r.2.1)), iV r.2.2] ∧ H' = []) := by
  refine AC_of_body true Tryd.func13 rfl Tryd.ntmps13 (rvs := [.tmp 2, .tmp 3, .tmp 4]) rfl rfl (fun G hG => ?_)
  have hm : G.H.length = 0 := by rw [hG]; rfl
  have hz : zeroG G.H = true := by rw [hG]; rfl
  unfold spec_ParsePosition at h
  refine ACode_seq (ACode_region ?_)
  refine AOps_q 2 _ rfl rfl rfl (QOp_assign _ _ rfl rfl) ?_
  refine AOps_q 3 _ rfl rfl rfl (QOp_assign _ _ rfl rfl) ?_
  refine AOps_q 4 _ rfl rfl rfl (QOp_assign _ _ rfl rfl) ?_
  refine AOps_nil ?_
  refine ACode_seq (ACode_region ?_)
  refine AOps_q 9 _ rfl rfl rfl (QOp_move _ _ rfl rfl) ?_
  obtain ⟨r1, hr1, h⟩ := bindO h
  refine AOps_call [] 10 _ _ _ _ _ _ _ _ _ _ rfl rfl rfl rfl rfl rfl rfl Tryd.call28 rfl (nodupB_sound _ rfl) rfl rfl rfl (spec_l09Read_ac k p0 _ hr1) ?_
  rintro _ _ ⟨rfl, rfl⟩
  refine ⟨(fun _ h => nomatch h), (allc (trivial) (allc (trivial) (allc (trivial) (fun _ h => nomatch h)))), AOps_as 10 (v' := .tup [iV r1.1, .d (.sl none (intsD r1.2.1)), bV r1.2.2]) (H' := []) rfl rfl ?_⟩
  refine AOps_q 8 _ rfl rfl rfl (QOp_move _ _ rfl rfl) ?_
  refine AOps_q 11 _ rfl rfl rfl (QOp_extract _ _ _ _ rfl rfl rfl) ?_
  refine AOps_q 12 _ rfl rfl rfl (QOp_extract _ _ _ _ rfl rfl rfl) ?_
  refine AOps_q 13 _ rfl rfl rfl (QOp_extract _ _ _ _ rfl rfl rfl) ?_
  refine AOps_q 5 _ rfl rfl rfl (QOp_assign _ _ rfl rfl) ?_
  refine AOps_q 6 _ rfl rfl rfl (QOp_assign _ _ rfl rfl) ?_
  refine AOps_q 7 _ rfl rfl rfl (QOp_assign _ _ rfl rfl) ?_
  refine AOps_nil ?_
  refine ACode_seq ?_
  refine ACode_seq (ACode_region ?_)
  refine AOps_q 14 _ rfl rfl rfl (QOp_move _ _ rfl rfl) ?_
  refine AOps_q 15 _ rfl rfl rfl (QOp_not _ _ _ rfl rfl) ?_
  refine AOps_nil ?_
  refine ACode_cond _ rfl (fun hb2 => ?_) (fun hb2 => ?_)
  · have h := iteT hb2 h
    refine ACode_seq (ACode_region ?_)
    refine AOps_q 2 _ rfl rfl rfl (QOp_assign _ _ rfl rfl) ?_
    refine AOps_q 3 _ rfl rfl rfl (QOp_assign _ _ rfl rfl) ?_
    refine AOps_q 4 _ rfl rfl rfl (QOp_assign _ _ rfl rfl) ?_
    refine AOps_nil ?_
    refine ACode_ret ?_
    cases h
    exact ⟨_, _, fun r a w h => ⟨r, h⟩, _, _, [], _, (.cons (ResV_tmp _ _ rfl) (.cons (ResV_tmp _ _ rfl) (.cons (ResV_tmp _ _ rfl) .nil))), rfl, rfl, rfl, rfl, rfl⟩
  · have h := iteF hb2 h
    refine ACode_skip ?_
    refine ACode_seq (ACode_region ?_)
    refine AOps_q 16 _ rfl rfl rfl (QOp_move _ _ rfl rfl) ?_
    refine AOps_q 17 _ rfl rfl rfl (QOp_move _ _ rfl rfl) ?_
    refine AOps_q 2 _ rfl rfl rfl (QOp_assign _ _ rfl rfl) ?_
    refine AOps_q 3 _ rfl rfl rfl (QOp_assign _ _ rfl rfl) ?_
    refine AOps_q 4 _ rfl rfl rfl (QOp_assign _ _ rfl rfl) ?_
    refine AOps_nil ?_
    refine ACode_ret ?_
    cases h
    exact ⟨_, _, fun r a w h => ⟨r, h⟩, _, _, [], _, (.cons (ResV_tmp _ _ rfl) (.cons (ResV_tmp _ _ rfl) (.cons (ResV_tmp _ _ rfl) .nil))), rfl, rfl, rfl, rfl, rfl⟩

-- internal/stringslite.Cut
def internal_stringslite_Cut (p0 : ByteArray) (p1 : ByteArray) : Option (ByteArray × ByteArray × Bool) :=
  (indexOne p0 p1).bind fun r1 => (if decide (0 ≤ r1) then (if 0 ≤ (0 : Int) ∧ 0 ≤ r1 ∧ r1 ≤ ((p0 : ByteArray).size : Int) then (if 0 ≤ w64 (r1 + (p1.size : Int)) ∧ w64 (r1 + (p1.size : Int)) ≤ ((p0 : ByteArray).size : Int) ∧ ((p0 : ByteArray).size : Int) ≤ ((p0 : ByteArray).size : Int) then some (((p0 : ByteArray).extract (0) (r1.toNat)), ((p0 : ByteArray).extract ((w64 (r1 + (p1.size : Int))).toNat) ((p0 : ByteArray).size)), true) else none) else none) else some (p0, (⟨#[]⟩ : ByteArray), false))
set_option maxRecDepth 100000 in
theorem internal_stringslite_Cut_ac (p0 : ByteArray) (p1 : ByteArray) (r : ByteArray × ByteArray × Bool) (h : internal_stringslite_Cut p0 p1 = some r) : AC Tryd.prog 46 [.d (.s (.string p0)), .d (.s (.string p1))] [] (fun res H' => res = [.d (.s (.string r.1)), .d (.s (.string r.2.1)), bV r.2.2] ∧ H' = []) := by
  refine AC_of_body true Tryd.func46 rfl Tryd.ntmps46 (rvs := [.tmp 4, .tmp 5, .tmp 6]) rfl rfl (fun G hG => ?_)
  have hm : G.H.length = 0 := by rw [hG]; rfl
  have hz : zeroG G.H = true := by rw [hG]; rfl
  unfold internal_stringslite_Cut at h
  refine ACode_seq (ACode_region ?_)
  refine AOps_q 4 _ rfl rfl rfl (QOp_assign _ _ rfl rfl) ?_
  refine AOps_q 5 _ rfl rfl rfl (QOp_assign _ _ rfl rfl) ?_
  refine AOps_q 6 _ rfl rfl rfl (QOp_assign _ _ rfl rfl) ?_
  refine AOps_nil ?_
  refine ACode_seq ?_
  refine ACode_seq (ACode_region ?_)
  refine AOps_q 8 _ rfl rfl rfl (QOp_move _ _ rfl rfl) ?_
  refine AOps_q 9 _ rfl rfl rfl (QOp_move _ _ rfl rfl) ?_
  obtain ⟨r1, hr1, h⟩ := bindO h
  refine AOps_call [] 10 _ _ _ _ _ _ _ _ _ _ rfl rfl rfl rfl rfl rfl rfl Tryd.call66 rfl (nodupB_sound _ rfl) rfl rfl rfl (indexOne_ac p0 p1 _ hr1) ?_
  rintro _ _ ⟨rfl, rfl⟩
  refine ⟨(fun _ h => nomatch h), (allc (trivial) (fun _ h => nomatch h)), AOps_as 10 (v' := iV r1) (H' := []) rfl rfl ?_⟩
  refine AOps_q 7 _ rfl rfl rfl (QOp_assign _ _ rfl rfl) ?_
  refine AOps_nil ?_
  refine ACode_seq (ACode_region ?_)
  refine AOps_q 11 _ rfl rfl rfl (QOp_move _ _ rfl rfl) ?_
  refine AOps_q 12 _ rfl rfl rfl (QOp_geq _ _ _ _ _ _ _ rfl rfl rfl) ?_
  refine AOps_nil ?_
  refine ACode_cond _ rfl (fun hb2 => ?_) (fun hb2 => ?_)
  · have h := iteT hb2 h
    refine ACode_seq (ACode_quiet mixed (by kernel_rfl) ?_)
    refine AQ_q 13 _ rfl rfl rfl (QOp_move _ _ rfl rfl) ?_
    refine AQ_q 14 _ rfl rfl rfl (QOp_move _ _ rfl rfl) ?_
    obtain ⟨hc3, h⟩ := guardO h
    refine AQ_q 15 _ rfl rfl rfl (QOp_sslice _ _ _ _ _ (0) (r1.toNat) rfl Tryd.underlying9 rfl rfl ⟨_, by rw [Int.toNat_of_nonneg (by omega)]; rfl⟩ (Nat.zero_le _) (Int.toNat_le.2 hc3.2.2)) ?_
    refine AQ_q 16 _ rfl rfl rfl (QOp_move _ _ rfl rfl) ?_
    refine AQ_q 17 _ rfl rfl rfl (QOp_move _ _ rfl rfl) ?_
    refine AQ_q 18 _ rfl rfl rfl (QOp_move _ _ rfl rfl) ?_
    refine AQ_q 19 _ rfl rfl rfl (QOp_len_str _ _ _ _ rfl rfl rfl rfl Tryd.underlying9 rfl) ?_
    refine AQ_q 20 _ rfl rfl rfl (QOp_add _ _ _ _ _ _ _ rfl rfl rfl) ?_
    obtain ⟨hc4, h⟩ := guardO h
    refine AQ_q 21 _ rfl rfl rfl (QOp_sslice _ _ _ _ _ ((w64 (r1 + (p1.size : Int))).toNat) ((p0 : ByteArray).size) rfl Tryd.underlying9 rfl ⟨_, by rw [Int.toNat_of_nonneg (by omega)]; rfl⟩ rfl (Int.toNat_le.2 hc4.2.1) (Nat.le_refl _)) ?_
    refine AQ_q 4 _ rfl rfl rfl (QOp_assign _ _ rfl rfl) ?_
    refine AQ_q 5 _ rfl rfl rfl (QOp_assign _ _ rfl rfl) ?_
    refine AQ_q 6 _ rfl rfl rfl (QOp_assign _ _ rfl rfl) ?_
    refine AQ_nil ?_
    refine ACode_ret ?_
    cases h
    exact ⟨_, _, fun r a w h => ⟨r, h⟩, _, _, [], _, (.cons (ResV_tmp _ _ rfl) (.cons (ResV_tmp _ _ rfl) (.cons (ResV_tmp _ _ rfl) .nil))), rfl, rfl, rfl, rfl, rfl⟩
  · have h := iteF hb2 h
    refine ACode_skip ?_
    refine ACode_seq (ACode_region ?_)
    refine AOps_q 22 _ rfl rfl rfl (QOp_move _ _ rfl rfl) ?_
    refine AOps_q 4 _ rfl rfl rfl (QOp_assign _ _ rfl rfl) ?_
    refine AOps_q 5 _ rfl rfl rfl (QOp_assign _ _ rfl rfl) ?_
    refine AOps_q 6 _ rfl rfl rfl (QOp_assign _ _ rfl rfl) ?_
    refine AOps_nil ?_
    refine ACode_ret ?_
    cases h
    exact ⟨_, _, fun r a w h => ⟨r, h⟩, _, _, [], _, (.cons (ResV_tmp _ _ rfl) (.cons (ResV_tmp _ _ rfl) (.cons (ResV_tmp _ _ rfl) .nil))), rfl, rfl, rfl, rfl, rfl⟩

-- strings.Cut
def strings_Cut (p0 : ByteArray) (p1 : ByteArray) : Option (ByteArray × ByteArray × Bool) :=
  (internal_stringslite_Cut p0 p1).bind fun r1 => some (r1.1, r1.2.1, r1.2.2)
set_option maxRecDepth 100000 in
theorem strings_Cut_ac (p0 : ByteArray) (p1 : ByteArray) (r : ByteArray × ByteArray × Bool) (h : strings_Cut p0 p1 = some r) : AC Tryd.prog 29 [.d (.s (.string p0)), .d (.s (.string p1))] [] (fun res H' => res = [.d (.s (.string r.1)), .d (.s (.string r.2.1)), bV r.2.2] ∧ H' = []) := by
  refine AC_of_body true Tryd.func29 rfl Tryd.ntmps29 (rvs := [.tmp 4, .tmp 5, .tmp 6]) rfl rfl (fun G hG => ?_)
  have hm : G.H.length = 0 := by rw [hG]; rfl
  have hz : zeroG G.H = true := by rw [hG]; rfl
  unfold strings_Cut at h
  refine ACode_seq (ACode_region ?_)
  refine AOps_q 4 _ rfl rfl rfl (QOp_assign _ _ rfl rfl) ?_
  refine AOps_q 5 _ rfl rfl rfl (QOp_assign _ _ rfl rfl) ?_
  refine AOps_q 6 _ rfl rfl rfl (QOp_assign _ _ rfl rfl) ?_
  refine AOps_nil ?_
  refine ACode_seq (ACode_region ?_)
  refine AOps_q 7 _ rfl rfl rfl (QOp_move _ _ rfl rfl) ?_
  refine AOps_q 8 _ rfl rfl rfl (QOp_move _ _ rfl rfl) ?_
  obtain ⟨r1, hr1, h⟩ := bindO h
  refine AOps_call [] 9 _ _ _ _ _ _ _ _ _ _ rfl rfl rfl rfl rfl rfl rfl Tryd.call46 rfl (nodupB_sound _ rfl) rfl rfl rfl (internal_stringslite_Cut_ac p0 p1 _ hr1) ?_
  rintro _ _ ⟨rfl, rfl⟩
  refine ⟨(fun _ h => nomatch h), (allc (trivial) (allc (trivial) (allc (trivial) (fun _ h => nomatch h)))), AOps_as 9 (v' := .tup [.d (.s (.string r1.1)), .d (.s (.string r1.2.1)), bV r1.2.2]) (H' := []) rfl rfl ?_⟩
  refine AOps_q 10 _ rfl rfl rfl (QOp_extract _ _ _ _ rfl rfl rfl) ?_
  refine AOps_q 11 _ rfl rfl rfl (QOp_extract _ _ _ _ rfl rfl rfl) ?_
  refine AOps_q 12 _ rfl rfl rfl (QOp_extract _ _ _ _ rfl rfl rfl) ?_
  refine AOps_q 4 _ rfl rfl rfl (QOp_assign _ _ rfl rfl) ?_
  refine AOps_q 5 _ rfl rfl rfl (QOp_assign _ _ rfl rfl) ?_
  refine AOps_q 6 _ rfl rfl rfl (QOp_assign _ _ rfl rfl) ?_
  refine AOps_nil ?_
  refine ACode_ret ?_
  cases h
  exact ⟨_, _, fun r a w h => ⟨r, h⟩, _, _, [], _, (.cons (ResV_tmp _ _ rfl) (.cons (ResV_tmp _ _ rfl) (.cons (ResV_tmp _ _ rfl) .nil))), rfl, rfl, rfl, rfl, rfl⟩

-- loop.example/g01362/impl.in
def impl_in (p0 : Int) (p1 : Int) (p2 : Int) : Bool :=
  letO (if decide (p1 ≤ p0) then decide (p0 ≤ p2) else false) fun (s2 : Bool) => s2
set_option maxRecDepth 100000 in
theorem impl_in_ac (p0 : Int) (p1 : Int) (p2 : Int) : AC Tryd.prog 50 [iV p0, iV p1, iV p2] [] (fun res H' => res = [bV (impl_in p0 p1 p2)] ∧ H' = []) := by
  refine AC_of_body true Tryd.func50 rfl Tryd.ntmps50 (rvs := [.tmp 6]) rfl rfl (fun G hG => ?_)
  have hm : G.H.length = 0 := by rw [hG]; rfl
  have hz : zeroG G.H = true := by rw [hG]; rfl
  obtain ⟨r, h⟩ : ∃ r, impl_in p0 p1 p2 = r := ⟨_, rfl⟩
  rw [h]
  unfold impl_in at h
  refine ACode_seq (ACode_region ?_)
  refine AOps_q 6 _ rfl rfl rfl (QOp_assign _ _ rfl rfl) ?_
  refine AOps_nil ?_
  obtain ⟨s2, hss2, hks2⟩ := letS h
  clear h
  refine ACode_seqJ (fun E' H' => Weak 15 G E' H' [(6, bV s2)] []) ?_ ?_
  · have h := hss2
    clear hss2
    refine (ACode_region ?_)
    refine AOps_q 7 _ rfl rfl rfl (QOp_move _ _ rfl rfl) ?_
    refine AOps_q 8 _ rfl rfl rfl (QOp_move _ _ rfl rfl) ?_
    refine AOps_q 9 _ rfl rfl rfl (QOp_geq _ _ _ _ _ _ _ rfl rfl rfl) ?_
    refine AOps_q 10 _ rfl rfl rfl (QOp_move _ _ rfl rfl) ?_
    refine AOps_case 10 _ rfl (fun hb1 => ?_) (fun hb1 => ?_)
    · have h := iteT hb1 h
      refine AOps_q 11 _ rfl rfl rfl (QOp_move _ _ rfl rfl) ?_
      refine AOps_q 12 _ rfl rfl rfl (QOp_move _ _ rfl rfl) ?_
      refine AOps_q 13 _ rfl rfl rfl (QOp_leq _ _ _ _ _ _ _ rfl rfl rfl) ?_
      refine AOps_q 14 _ rfl rfl rfl (QOp_pick_t _ _ _ _ rfl rfl rfl) ?_
      refine AOps_q 6 _ rfl rfl rfl (QOp_assign _ _ rfl rfl) ?_
      refine AOps_nil ?_
      cases h
      exact Weak_keep 0 hm [6] [] _ _ rfl rfl rfl
    · have h := iteF hb1 h
      refine AOps_skip 11 rfl rfl rfl ?_
      refine AOps_skip 12 rfl rfl rfl ?_
      refine AOps_skip 13 rfl rfl rfl ?_
      refine AOps_q 14 _ rfl rfl rfl (QOp_pick_f _ _ _ _ rfl rfl rfl) ?_
      refine AOps_q 6 _ rfl rfl rfl (QOp_assign _ _ rfl rfl) ?_
      refine AOps_nil ?_
      cases h
      exact Weak_keep 0 hm [6] [] _ _ rfl rfl rfl
  intro E' H' hw
  refine ACode_weak hw ?_
  have h := hks2
  refine ACode_ret ?_
  cases h
  exact ⟨_, _, fun r a w h => ⟨r, h⟩, _, _, [], _, (.cons (ResV_tmp _ _ rfl) .nil), rfl, rfl, rfl, rfl, rfl⟩

-- loop.example/g01362/impl.size[int64]
def impl_size (p0 : List Int) : Int :=
  (p0.length : Int)
set_option maxRecDepth 100000 in
theorem impl_size_ac (p0 : List Int) : AC Tryd.prog 61 [.d (.sl none (intsD p0))] [] (fun res H' => res = [iV (impl_size p0)] ∧ H' = []) := by
  refine AC_of_body true Tryd.func61 rfl Tryd.ntmps61 (rvs := [.tmp 2]) rfl rfl (fun G hG => ?_)
  have hm : G.H.length = 0 := by rw [hG]; rfl
  have hz : zeroG G.H = true := by rw [hG]; rfl
  obtain ⟨r, h⟩ : ∃ r, impl_size p0 = r := ⟨_, rfl⟩
  rw [h]
  unfold impl_size at h
  refine ACode_seq (ACode_region ?_)
  refine AOps_q 2 _ rfl rfl rfl (QOp_assign _ _ rfl rfl) ?_
  refine AOps_nil ?_
  refine ACode_seq (ACode_region ?_)
  refine AOps_q 3 _ rfl rfl rfl (QOp_move _ _ rfl rfl) ?_
  refine AOps_q 4 _ rfl rfl rfl (QOp_len_sl _ _ _ _ _ _ _ (intsD_length _) rfl rfl rfl rfl Tryd.underlying30 rfl) ?_
  refine AOps_q 2 _ rfl rfl rfl (QOp_assign _ _ rfl rfl) ?_
  refine AOps_nil ?_
  refine ACode_ret ?_
  cases h
  exact ⟨_, _, fun r a w h => ⟨r, h⟩, _, _, [], _, (.cons (ResV_tmp _ _ rfl) .nil), rfl, rfl, rfl, rfl, rfl⟩

-- slices.IndexFunc[[]int64,int64]
def slices_IndexFunc_l0 (p0 : List Int) (p1 : Int → Option (Bool)) : Nat → Int → Option (Sum (Unit) (Int))
  | 0, _ => none
  | k0 + 1, x1 => (if decide (x1 < (p0.length : Int)) then (if 0 ≤ x1 ∧ x1 < (p0.length : Int) then (p1 (p0.getD x1.toNat 0)).bind fun r4 => (if r4 then some (.inr x1) else slices_IndexFunc_l0 p0 p1 k0 (w64 (x1 + 1))) else none) else some (.inl ()))
def slices_IndexFunc (k : Nat) (p0 : List Int) (p1 : Int → Option (Bool)) : Option (Int) :=
  (slices_IndexFunc_l0 p0 p1 k 0 : Option (Sum (Unit) (Int))).bind fun os6 => (match os6 with | .inl s6 => some (-1) | .inr rr => some rr)
set_option maxRecDepth 100000 in
theorem slices_IndexFunc_ac (k : Nat) (p0 : List Int) (p1 : Int → Option (Bool)) (g_p1 : FuncId) (c_p1 : List D) (hg_p1 : ∀ args w, (callFunc g_p1 args).run Tryd.prog w = .ok (.enter g_p1 args) w) (hf_p1 : ∀ (a0 : Int) (r : Bool), p1 a0 = some r → AC Tryd.prog g_p1 ([iV a0] ++ c_p1.map AV.d) [] (fun res H' => res = [bV r] ∧ H' = [])) (r : Int) (h : slices_IndexFunc k p0 p1 = some r) : AC Tryd.prog 93 [.d (.sl none (intsD p0)), .d (.clo g_p1 c_p1)] [] (fun res H' => res = [iV r] ∧ H' = []) := by
  refine AC_of_body true Tryd.func93 rfl Tryd.ntmps93 (rvs := [.tmp 4]) rfl rfl (fun G hG => ?_)
  have hm : G.H.length = 0 := by rw [hG]; rfl
  have hz : zeroG G.H = true := by rw [hG]; rfl
  unfold slices_IndexFunc at h
  refine ACode_seq (ACode_region ?_)
  refine AOps_q 4 _ rfl rfl rfl (QOp_assign _ _ rfl rfl) ?_
  refine AOps_nil ?_
  obtain ⟨os6, hss6, hks6⟩ := bindO h
  clear h
  refine ACode_seqJ (fun E' H' => ∃ s6 : Unit, os6 = .inl s6 ∧ Weak 19 G E' H' [] []) ?_ ?_
  · have h := hss6
    clear hss6
    refine ACode_seq (ACode_region ?_)
    refine AOps_q 6 _ rfl rfl rfl (QOp_move _ _ rfl rfl) ?_
    refine AOps_q 7 _ rfl rfl rfl (QOp_len_sl _ _ _ _ _ _ _ (intsD_length _) rfl rfl rfl rfl Tryd.underlying30 rfl) ?_
    refine AOps_q 8 _ rfl rfl rfl (QOp_move _ _ rfl rfl) ?_
    refine AOps_nil ?_
    refine ACode_block ?_
    refine ACode_loopW (fun k0 E H => ∃ (x1 : Int), E = [(0, .d (.sl none (intsD p0))), (1, .d (.clo g_p1 c_p1)), (7, iV (p0.length : Int)), (8, iV x1)] ∧ H = [] ∧ slices_IndexFunc_l0 p0 p1 k0 x1 = some os6) k _ _ (Weak_keep 0 hm [0, 1, 7, 8] [] _ _ rfl rfl rfl) ⟨_, rfl, rfl, h⟩ ?_
    clear h
    rintro k0 E H ⟨x1, rfl, rfl, h⟩
    cases k0 with
    | zero => cases (show (none : Option (Sum (Unit) (Int))) = some _ from h)
    | succ k0 =>
      rw [slices_IndexFunc_l0] at h
      refine ACode_seq (ACode_region ?_)
      refine AOps_q 9 _ rfl rfl rfl (QOp_lss _ _ _ _ _ _ _ rfl rfl rfl) ?_
      refine AOps_nil ?_
      refine ACode_seq ?_
      refine ACode_cond _ rfl (fun hb2 => ?_) (fun hb2 => ?_)
      · have h := iteT hb2 h
        refine ACode_skip ?_
        refine ACode_seq ?_
        refine ACode_block ?_
        refine ACode_seq (ACode_region ?_)
        refine AOps_q 10 _ rfl rfl rfl (QOp_move _ _ rfl rfl) ?_
        refine AOps_q 5 _ rfl rfl rfl (QOp_assign _ _ rfl rfl) ?_
        refine AOps_nil ?_
        refine ACode_seq (ACode_region ?_)
        refine AOps_q 11 _ rfl rfl rfl (QOp_move _ _ rfl rfl) ?_
        refine AOps_q 12 _ rfl rfl rfl (QOp_move _ _ rfl rfl) ?_
        refine AOps_q 13 _ rfl rfl rfl (QOp_move _ _ rfl rfl) ?_
        obtain ⟨hc3, h⟩ := guardO h
        refine AOps_q 14 _ rfl rfl rfl (QOp_indexAddr_sl _ _ _ _ _ _ _ _ rfl Tryd.underlying30 Tryd.sizeOf2 hc3.1 (by rw [intsD_length]; exact hc3.2) rfl rfl) ?_
        refine AOps_q 15 _ rfl rfl rfl (QOp_load_pv _ _ _ _ _ rfl Tryd.isAgg2 rfl (intsD_get _ _ 0 (by omega))) ?_
        obtain ⟨r4, hr4, h⟩ := bindO h
        refine AOps_call [] 16 _ _ _ _ _ _ _ _ _ _ rfl rfl rfl rfl rfl rfl rfl hg_p1 rfl (nodupB_sound _ rfl) rfl rfl (viewA_mapD _) (hf_p1 (p0.getD x1.toNat 0) _ hr4) ?_
        rintro _ _ ⟨rfl, rfl⟩
        refine ⟨(fun _ h => nomatch h), (allc (trivial) (fun _ h => nomatch h)), AOps_as 16 (v' := bV r4) (H' := []) rfl rfl ?_⟩
        refine AOps_nil ?_
        refine ACode_cond _ rfl (fun hb5 => ?_) (fun hb5 => ?_)
        · have h := iteT hb5 h
          refine ACode_seq (ACode_region ?_)
          refine AOps_q 17 _ rfl rfl rfl (QOp_move _ _ rfl rfl) ?_
          refine AOps_q 4 _ rfl rfl rfl (QOp_assign _ _ rfl rfl) ?_
          refine AOps_nil ?_
          refine ACode_ret ?_
          cases h
          have h := hks6
          cases h
          exact ⟨_, _, fun r a w h => ⟨r, h⟩, _, _, [], _, (.cons (ResV_tmp _ _ rfl) .nil), rfl, rfl, rfl, rfl, rfl⟩
        · have h := iteF hb5 h
          refine ACode_skip ?_
          refine (ACode_region ?_)
          refine AOps_q 18 _ rfl rfl rfl (QOp_add _ _ _ _ _ _ _ rfl rfl rfl) ?_
          refine AOps_q 8 _ rfl rfl rfl (QOp_move _ _ rfl rfl) ?_
          refine AOps_nil ?_
          exact ⟨k0, _, _, Nat.lt_succ_self _, Weak_keep 0 hm [0, 1, 7, 8] [] _ _ rfl rfl rfl, _, rfl, rfl, h⟩
      · have h := iteF hb2 h
        refine ACode_exit ?_
        cases h
        exact ⟨_, rfl, Weak_keep 0 hm [] [] _ _ rfl rfl rfl⟩
  rintro E' H' ⟨s6, rfl, hw⟩
  refine ACode_weak hw ?_
  have h := hks6
  refine ACode_seq (ACode_region ?_)
  refine AOps_q 4 _ rfl rfl rfl (QOp_assign _ _ rfl rfl) ?_
  refine AOps_nil ?_
  refine ACode_ret ?_
  cases h
  exact ⟨_, _, fun r a w h => ⟨r, h⟩, _, _, [], _, (.cons (ResV_tmp _ _ rfl) .nil), rfl, rfl, rfl, rfl, rfl⟩

-- slices.ContainsFunc[[]int64,int64]
def slices_ContainsFunc (k : Nat) (p0 : List Int) (p1 : Int → Option (Bool)) : Option (Bool) :=
  (slices_IndexFunc k p0 p1).bind fun r1 => some (decide (0 ≤ r1))
set_option maxRecDepth 100000 in
theorem slices_ContainsFunc_ac (k : Nat) (p0 : List Int) (p1 : Int → Option (Bool)) (g_p1 : FuncId) (c_p1 : List D) (hg_p1 : ∀ args w, (callFunc g_p1 args).run Tryd.prog w = .ok (.enter g_p1 args) w) (hf_p1 : ∀ (a0 : Int) (r : Bool), p1 a0 = some r → AC Tryd.prog g_p1 ([iV a0] ++ c_p1.map AV.d) [] (fun res H' => res = [bV r] ∧ H' = [])) (r : Bool) (h : slices_ContainsFunc k p0 p1 = some r) : AC Tryd.prog 73 [.d (.sl none (intsD p0)), .d (.clo g_p1 c_p1)] [] (fun res H' => res = [bV r] ∧ H' = []) := by
  refine AC_of_body true Tryd.func73 rfl Tryd.ntmps73 (rvs := [.tmp 4]) rfl rfl (fun G hG => ?_)
  have hm : G.H.length = 0 := by rw [hG]; rfl
  have hz : zeroG G.H = true := by rw [hG]; rfl
  unfold slices_ContainsFunc at h
  refine ACode_seq (ACode_region ?_)
  refine AOps_q 4 _ rfl rfl rfl (QOp_assign _ _ rfl rfl) ?_
  refine AOps_nil ?_
  refine ACode_seq (ACode_region ?_)
  refine AOps_q 5 _ rfl rfl rfl (QOp_move _ _ rfl rfl) ?_
  refine AOps_q 6 _ rfl rfl rfl (QOp_move _ _ rfl rfl) ?_
  obtain ⟨r1, hr1, h⟩ := bindO h
  refine AOps_call [] 7 _ _ _ _ _ _ _ _ _ _ rfl rfl rfl rfl rfl rfl rfl Tryd.call93 rfl (nodupB_sound _ rfl) rfl rfl rfl (slices_IndexFunc_ac k p0 p1 g_p1 c_p1 hg_p1 hf_p1 _ hr1) ?_
  rintro _ _ ⟨rfl, rfl⟩
  refine ⟨(fun _ h => nomatch h), (allc (trivial) (fun _ h => nomatch h)), AOps_as 7 (v' := iV r1) (H' := []) rfl rfl ?_⟩
  refine AOps_q 8 _ rfl rfl rfl (QOp_geq _ _ _ _ _ _ _ rfl rfl rfl) ?_
  refine AOps_q 4 _ rfl rfl rfl (QOp_assign _ _ rfl rfl) ?_
  refine AOps_nil ?_
  refine ACode_ret ?_
  cases h
  exact ⟨_, _, fun r a w h => ⟨r, h⟩, _, _, [], _, (.cons (ResV_tmp _ _ rfl) .nil), rfl, rfl, rfl, rfl, rfl⟩

-- loop.example/g01362/impl.areIn$1
def impl_areIn_c1 (p0 : Int) (p1 : Int) (p2 : Int) : Bool :=
  !(impl_in p0 p1 p2)
set_option maxRecDepth 100000 in
theorem impl_areIn_c1_ac (p0 : Int) (p1 : Int) (p2 : Int) : AC Tryd.prog 74 [iV p0, .d (.pv ([iD p1]) 0), .d (.pv ([iD p2]) 0)] [] (fun res H' => res = [bV (impl_areIn_c1 p0 p1 p2)] ∧ H' = []) := by
  refine AC_of_body true Tryd.func74 rfl Tryd.ntmps74 (rvs := [.tmp 4]) rfl rfl (fun G hG => ?_)
  have hm : G.H.length = 0 := by rw [hG]; rfl
  have hz : zeroG G.H = true := by rw [hG]; rfl
  obtain ⟨r, h⟩ : ∃ r, impl_areIn_c1 p0 p1 p2 = r := ⟨_, rfl⟩
  rw [h]
  unfold impl_areIn_c1 at h
  refine ACode_seq (ACode_region ?_)
  refine AOps_q 4 _ rfl rfl rfl (QOp_assign _ _ rfl rfl) ?_
  refine AOps_nil ?_
  refine ACode_seq (ACode_region ?_)
  refine AOps_q 5 _ rfl rfl rfl (QOp_move _ _ rfl rfl) ?_
  refine AOps_q 6 _ rfl rfl rfl (QOp_load_pv _ _ _ _ _ rfl Tryd.isAgg2 rfl rfl) ?_
  refine AOps_q 7 _ rfl rfl rfl (QOp_load_pv _ _ _ _ _ rfl Tryd.isAgg2 rfl rfl) ?_
  refine AOps_call [] 8 _ _ _ _ _ _ _ _ _ _ rfl rfl rfl rfl rfl rfl rfl Tryd.call50 rfl (nodupB_sound _ rfl) rfl rfl rfl (impl_in_ac p0 p1 p2) ?_
  rintro _ _ ⟨rfl, rfl⟩
  refine ⟨(fun _ h => nomatch h), (allc (trivial) (fun _ h => nomatch h)), AOps_as 8 (v' := bV (impl_in p0 p1 p2)) (H' := []) rfl rfl ?_⟩
  refine AOps_q 9 _ rfl rfl rfl (QOp_not _ _ _ rfl rfl) ?_
  refine AOps_q 4 _ rfl rfl rfl (QOp_assign _ _ rfl rfl) ?_
  refine AOps_nil ?_
  refine ACode_ret ?_
  cases h
  exact ⟨_, _, fun r a w h => ⟨r, h⟩, _, _, [], _, (.cons (ResV_tmp _ _ rfl) .nil), rfl, rfl, rfl, rfl, rfl⟩

-- loop.example/g01362/impl.areIn
def impl_areIn (k : Nat) (p0 : List Int) (p1 : Int) (p2 : Int) (p3 : Int) : Option (Bool) :=
  ((if decide ((impl_size p0) = p1) then (slices_ContainsFunc k p0 (fun a0 => some (impl_areIn_c1 a0 p2 p3))).bind fun r3 => some (!r3) else some false) : Option (Bool)).bind fun s4 => some s4
set_option maxRecDepth 100000 in
theorem impl_areIn_ac (k : Nat) (p0 : List Int) (p1 : Int) (p2 : Int) (p3 : Int) (r : Bool) (h : impl_areIn k p0 p1 p2 p3 = some r) : AC Tryd.prog 58 [.d (.sl none (intsD p0)), iV p1, iV p2, iV p3] [] (fun res H' => res = [bV r] ∧ H' = []) := by
  refine AC_of_body true Tryd.func58 rfl Tryd.ntmps58 (rvs := [.tmp 8]) rfl rfl (fun G hG => ?_)
  have hm : G.H.length = 0 := by rw [hG]; rfl
  have hz : zeroG G.H = true := by rw [hG]; rfl
  unfold impl_areIn at h
  refine ACode_seq (ACode_region ?_)
  refine AOps_boxI 6 _ _ (iD p2) _ rfl (fun c hc => by cases hc with | head => rfl | tail _ h => cases h) rfl rfl rfl rfl rfl ?_
  refine AOps_boxI 7 _ _ (iD p3) _ rfl (fun c hc => by cases hc with | head => rfl | tail _ h => cases h) rfl rfl rfl rfl rfl ?_
  refine AOps_q 8 _ rfl rfl rfl (QOp_assign _ _ rfl rfl) ?_
  refine AOps_nil ?_
  obtain ⟨s4, hss4, hks4⟩ := bindO h
  clear h
  refine ACode_seqJ (fun E' H' => Weak 19 G E' H' [(8, bV s4)] []) ?_ ?_
  · have h := hss4
    clear hss4
    refine (ACode_region ?_)
    refine AOps_q 9 _ rfl rfl rfl (QOp_move _ _ rfl rfl) ?_
    refine AOps_call [] 10 _ _ _ _ _ _ _ _ _ _ rfl rfl rfl rfl rfl rfl rfl Tryd.call61 rfl (nodupB_sound _ rfl) rfl rfl rfl (impl_size_ac p0) ?_
    rintro _ _ ⟨rfl, rfl⟩
    refine ⟨(fun _ h => nomatch h), (allc (trivial) (fun _ h => nomatch h)), AOps_as 10 (v' := iV (impl_size p0)) (H' := []) rfl rfl ?_⟩
    refine AOps_q 11 _ rfl rfl rfl (QOp_move _ _ rfl rfl) ?_
    refine AOps_q 12 _ rfl rfl rfl (QOp_eql _ _ _ _ _ _ _ rfl rfl rfl) ?_
    refine AOps_q 13 _ rfl rfl rfl (QOp_move _ _ rfl rfl) ?_
    refine AOps_case 13 _ rfl (fun hb2 => ?_) (fun hb2 => ?_)
    · have h := iteT hb2 h
      refine AOps_q 14 _ rfl rfl rfl (QOp_move _ _ rfl rfl) ?_
      refine AOps_q 15 _ rfl rfl rfl (QOp_makeFuncD _ _ _ _ rfl rfl rfl) ?_
      obtain ⟨r3, hr3, h⟩ := bindO h
      refine AOps_call [] 16 _ _ _ _ _ _ _ _ _ _ rfl rfl rfl rfl rfl rfl rfl Tryd.call73 rfl (nodupB_sound _ rfl) rfl rfl rfl (slices_ContainsFunc_ac k p0 (fun a0 => some (impl_areIn_c1 a0 p2 p3)) 74 ([.pv ([iD p2]) 0, .pv ([iD p3]) 0]) Tryd.call74 (fun a0 r h => by cases h; exact impl_areIn_c1_ac a0 p2 p3) _ hr3) ?_
      rintro _ _ ⟨rfl, rfl⟩
      refine ⟨(fun _ h => nomatch h), (allc (trivial) (fun _ h => nomatch h)), AOps_as 16 (v' := bV r3) (H' := []) rfl rfl ?_⟩
      refine AOps_q 17 _ rfl rfl rfl (QOp_not _ _ _ rfl rfl) ?_
      refine AOps_q 18 _ rfl rfl rfl (QOp_pick_t _ _ _ _ rfl rfl rfl) ?_
      refine AOps_q 8 _ rfl rfl rfl (QOp_assign _ _ rfl rfl) ?_
      refine AOps_nil ?_
      cases h
      exact Weak_keep 0 hm [8] [] _ _ rfl rfl rfl
    · have h := iteF hb2 h
      refine AOps_skip 14 rfl rfl rfl ?_
      refine AOps_skip 15 rfl rfl rfl ?_
      refine AOps_skip 16 rfl rfl rfl ?_
      refine AOps_skip 17 rfl rfl rfl ?_
      refine AOps_q 18 _ rfl rfl rfl (QOp_pick_f _ _ _ _ rfl rfl rfl) ?_
      refine AOps_q 8 _ rfl rfl rfl (QOp_assign _ _ rfl rfl) ?_
      refine AOps_nil ?_
      cases h
      exact Weak_keep 0 hm [8] [] _ _ rfl rfl rfl
  intro E' H' hw
  refine ACode_weak hw ?_
  have h := hks4
  refine ACode_ret ?_
  cases h
  exact ⟨_, _, fun r a w h => ⟨r, h⟩, _, _, [], _, (.cons (ResV_tmp _ _ rfl) .nil), rfl, rfl, rfl, rfl, rfl⟩

-- (loop.example/g01362/impl.position).isShape
def impl_position_isShape (k : Nat) (p0 : Pos) : Option (Bool) :=
  ((if (impl_in p0.n 1 5) then (impl_areIn k p0.l (w64 ((w64 (p0.n * (w64 (p0.n - 1)))).tdiv 2)) (-1) 1).bind fun r3 => some r3 else some false) : Option (Bool)).bind fun s4 => some s4
set_option maxRecDepth 100000 in
theorem impl_position_isShape_ac (k : Nat) (p0 : Pos) (r : Bool) (h : impl_position_isShape k p0 = some r) : AC Tryd.prog 41 [.d (.agg (posD p0))] [] (fun res H' => res = [bV r] ∧ H' = []) := by
  refine AC_of_body true Tryd.func41 rfl Tryd.ntmps41 (rvs := [.tmp 2]) rfl rfl (fun G hG => ?_)
  have hm : G.H.length = 0 := by rw [hG]; rfl
  have hz : zeroG G.H = true := by rw [hG]; rfl
  unfold impl_position_isShape at h
  refine ACode_seq (ACode_region ?_)
  refine AOps_boxI 1 _ _ (.agg (posD p0)) (posD p0) rfl (posD_one _) rfl rfl rfl rfl rfl ?_
  refine AOps_q 2 _ rfl rfl rfl (QOp_assign _ _ rfl rfl) ?_
  refine AOps_nil ?_
  obtain ⟨s4, hss4, hks4⟩ := bindO h
  clear h
  refine ACode_seqJ (fun E' H' => Weak 18 G E' H' [(2, bV s4)] []) ?_ ?_
  · have h := hss4
    clear hss4
    refine (ACode_region ?_)
    refine AOps_q 3 _ rfl rfl rfl (QOp_fieldAddr_pv _ _ _ _ _ 0 _ _ rfl Tryd.underlying48 rfl _ Tryd.sizeOf2 rfl rfl) ?_
    refine AOps_q 4 _ rfl rfl rfl (QOp_load_pv _ _ _ _ _ rfl Tryd.isAgg2 rfl rfl) ?_
    refine AOps_call [] 5 _ _ _ _ _ _ _ _ _ _ rfl rfl rfl rfl rfl rfl rfl Tryd.call50 rfl (nodupB_sound _ rfl) rfl rfl rfl (impl_in_ac p0.n 1 5) ?_
    rintro _ _ ⟨rfl, rfl⟩
    refine ⟨(fun _ h => nomatch h), (allc (trivial) (fun _ h => nomatch h)), AOps_as 5 (v' := bV (impl_in p0.n 1 5)) (H' := []) rfl rfl ?_⟩
    refine AOps_q 6 _ rfl rfl rfl (QOp_move _ _ rfl rfl) ?_
    refine AOps_case 6 _ rfl (fun hb2 => ?_) (fun hb2 => ?_)
    · have h := iteT hb2 h
      refine AOps_q 7 _ rfl rfl rfl (QOp_fieldAddr_pv _ _ _ _ _ 1 _ _ rfl Tryd.underlying48 rfl _ Tryd.sizeOf30 rfl rfl) ?_
      refine AOps_q 8 _ rfl rfl rfl (QOp_load_pv _ _ _ _ _ rfl Tryd.isAgg30 rfl rfl) ?_
      refine AOps_q 9 _ rfl rfl rfl (QOp_fieldAddr_pv _ _ _ _ _ 0 _ _ rfl Tryd.underlying48 rfl _ Tryd.sizeOf2 rfl rfl) ?_
      refine AOps_q 10 _ rfl rfl rfl (QOp_load_pv _ _ _ _ _ rfl Tryd.isAgg2 rfl rfl) ?_
      refine AOps_q 11 _ rfl rfl rfl (QOp_fieldAddr_pv _ _ _ _ _ 0 _ _ rfl Tryd.underlying48 rfl _ Tryd.sizeOf2 rfl rfl) ?_
      refine AOps_q 12 _ rfl rfl rfl (QOp_load_pv _ _ _ _ _ rfl Tryd.isAgg2 rfl rfl) ?_
      refine AOps_q 13 _ rfl rfl rfl (QOp_sub _ _ _ _ _ _ _ rfl rfl rfl) ?_
      refine AOps_q 14 _ rfl rfl rfl (QOp_mul _ _ _ _ _ _ _ rfl rfl rfl) ?_
      refine AOps_q 15 _ rfl rfl rfl (QOp_quo _ _ _ _ _ _ _ (by decide) rfl rfl rfl) ?_
      obtain ⟨r3, hr3, h⟩ := bindO h
      refine AOps_call [] 16 _ _ _ _ _ _ _ _ _ _ rfl rfl rfl rfl rfl rfl rfl Tryd.call58 rfl (nodupB_sound _ rfl) rfl rfl rfl (impl_areIn_ac k p0.l (w64 ((w64 (p0.n * (w64 (p0.n - 1)))).tdiv 2)) (-1) 1 _ hr3) ?_
      rintro _ _ ⟨rfl, rfl⟩
      refine ⟨(fun _ h => nomatch h), (allc (trivial) (fun _ h => nomatch h)), AOps_as 16 (v' := bV r3) (H' := []) rfl rfl ?_⟩
      refine AOps_q 17 _ rfl rfl rfl (QOp_pick_t _ _ _ _ rfl rfl rfl) ?_
      refine AOps_q 2 _ rfl rfl rfl (QOp_assign _ _ rfl rfl) ?_
      refine AOps_nil ?_
      cases h
      exact Weak_keep 0 hm [2] [] _ _ rfl rfl rfl
    · have h := iteF hb2 h
      refine AOps_skip 7 rfl rfl rfl ?_
      refine AOps_skip 8 rfl rfl rfl ?_
      refine AOps_skip 9 rfl rfl rfl ?_
      refine AOps_skip 10 rfl rfl rfl ?_
      refine AOps_skip 11 rfl rfl rfl ?_
      refine AOps_skip 12 rfl rfl rfl ?_
      refine AOps_skip 13 rfl rfl rfl ?_
      refine AOps_skip 14 rfl rfl rfl ?_
      refine AOps_skip 15 rfl rfl rfl ?_
      refine AOps_skip 16 rfl rfl rfl ?_
      refine AOps_q 17 _ rfl rfl rfl (QOp_pick_f _ _ _ _ rfl rfl rfl) ?_
      refine AOps_q 2 _ rfl rfl rfl (QOp_assign _ _ rfl rfl) ?_
      refine AOps_nil ?_
      cases h
      exact Weak_keep 0 hm [2] [] _ _ rfl rfl rfl
  intro E' H' hw
  refine ACode_weak hw ?_
  have h := hks4
  refine ACode_ret ?_
  cases h
  exact ⟨_, _, fun r a w h => ⟨r, h⟩, _, _, [], _, (.cons (ResV_tmp _ _ rfl) .nil), rfl, rfl, rfl, rfl, rfl⟩

-- (loop.example/g01362/impl.position).many
def impl_position_many_l0 (p0 : Pos) (p1 : Int) : Nat → Int → Int → Option (Int)
  | 0, _, _ => none
  | k0 + 1, x1, x2 => (if decide (x2 < (p0.l.length : Int)) then ((if 0 ≤ x2 ∧ x2 < (p0.l.length : Int) then (if decide ((p0.l.getD x2.toNat 0) = p1) then some (w64 (x1 + 1)) else some x1) else none) : Option (Int)).bind fun s6 => impl_position_many_l0 p0 p1 k0 s6 (w64 (x2 + 1)) else some x1)
def impl_position_many (k : Nat) (p0 : Pos) (p1 : Int) : Option (Int) :=
  (impl_position_many_l0 p0 p1 k 0 0 : Option (Int)).bind fun s7 => some s7
set_option maxRecDepth 100000 in
theorem impl_position_many_ac (k : Nat) (p0 : Pos) (p1 : Int) (r : Int) (h : impl_position_many k p0 p1 = some r) : AC Tryd.prog 75 [.d (.agg (posD p0)), iV p1] [] (fun res H' => res = [iV r] ∧ H' = []) := by
  refine AC_of_body true Tryd.func75 rfl Tryd.ntmps75 (rvs := [.tmp 4]) rfl rfl (fun G hG => ?_)
  have hm : G.H.length = 0 := by rw [hG]; rfl
  have hz : zeroG G.H = true := by rw [hG]; rfl
  unfold impl_position_many at h
  refine ACode_seq (ACode_region ?_)
  refine AOps_boxI 2 _ _ (.agg (posD p0)) (posD p0) rfl (posD_one _) rfl rfl rfl rfl rfl ?_
  refine AOps_q 4 _ rfl rfl rfl (QOp_assign _ _ rfl rfl) ?_
  refine AOps_nil ?_
  refine ACode_seq (ACode_region ?_)
  refine AOps_q 5 _ rfl rfl rfl (QOp_assign _ _ rfl rfl) ?_
  refine AOps_nil ?_
  obtain ⟨s7, hss7, hks7⟩ := bindO h
  clear h
  refine ACode_seqJ (fun E' H' => Weak 22 G E' H' [(5, iV s7)] []) ?_ ?_
  · have h := hss7
    clear hss7
    refine ACode_seq (ACode_region ?_)
    refine AOps_q 8 _ rfl rfl rfl (QOp_fieldAddr_pv _ _ _ _ _ 1 _ _ rfl Tryd.underlying48 rfl _ Tryd.sizeOf30 rfl rfl) ?_
    refine AOps_q 9 _ rfl rfl rfl (QOp_load_pv _ _ _ _ _ rfl Tryd.isAgg30 rfl rfl) ?_
    refine AOps_q 10 _ rfl rfl rfl (QOp_len_sl _ _ _ _ _ _ _ (intsD_length _) rfl rfl rfl rfl Tryd.underlying30 rfl) ?_
    refine AOps_q 11 _ rfl rfl rfl (QOp_move _ _ rfl rfl) ?_
    refine AOps_nil ?_
    refine ACode_block ?_
    refine ACode_loopW (fun k0 E H => ∃ (x1 : Int) (x2 : Int), E = [(1, iV p1), (5, iV x1), (9, .d (.sl none (intsD p0.l))), (10, iV (p0.l.length : Int)), (11, iV x2)] ∧ H = [] ∧ impl_position_many_l0 p0 p1 k0 x1 x2 = some s7) k _ _ (Weak_keep 0 hm [1, 5, 9, 10, 11] [] _ _ rfl rfl rfl) ⟨_, _, rfl, rfl, h⟩ ?_
    clear h
    rintro k0 E H ⟨x1, x2, rfl, rfl, h⟩
    cases k0 with
    | zero => cases (show (none : Option (Int)) = some _ from h)
    | succ k0 =>
      rw [impl_position_many_l0] at h
      refine ACode_seq (ACode_region ?_)
      refine AOps_q 12 _ rfl rfl rfl (QOp_lss _ _ _ _ _ _ _ rfl rfl rfl) ?_
      refine AOps_nil ?_
      refine ACode_seq ?_
      refine ACode_cond _ rfl (fun hb3 => ?_) (fun hb3 => ?_)
      · have h := iteT hb3 h
        refine ACode_skip ?_
        obtain ⟨s6, hss6, hks6⟩ := bindO h
        clear h
        refine ACode_seqJ (fun E' H' => Weak 22 G E' H' [(1, iV p1), (5, iV s6), (9, .d (.sl none (intsD p0.l))), (10, iV (p0.l.length : Int)), (11, iV x2)] []) ?_ ?_
        · have h := hss6
          clear hss6
          refine ACode_block ?_
          refine ACode_seq (ACode_region ?_)
          obtain ⟨hc4, h⟩ := guardO h
          refine AOps_q 13 _ rfl rfl rfl (QOp_indexAddr_sl _ _ _ _ _ _ _ _ rfl Tryd.underlying30 Tryd.sizeOf2 hc4.1 (by rw [intsD_length]; exact hc4.2) rfl rfl) ?_
          refine AOps_q 14 _ rfl rfl rfl (QOp_load_pv _ _ _ _ _ rfl Tryd.isAgg2 rfl (intsD_get _ _ 0 (by omega))) ?_
          refine AOps_q 7 _ rfl rfl rfl (QOp_assign _ _ rfl rfl) ?_
          refine AOps_nil ?_
          refine ACode_seq (ACode_region ?_)
          refine AOps_q 15 _ rfl rfl rfl (QOp_move _ _ rfl rfl) ?_
          refine AOps_q 16 _ rfl rfl rfl (QOp_move _ _ rfl rfl) ?_
          refine AOps_q 17 _ rfl rfl rfl (QOp_eql _ _ _ _ _ _ _ rfl rfl rfl) ?_
          refine AOps_nil ?_
          refine ACode_cond _ rfl (fun hb5 => ?_) (fun hb5 => ?_)
          · have h := iteT hb5 h
            refine (ACode_region ?_)
            refine AOps_q 18 _ rfl rfl rfl (QOp_move _ _ rfl rfl) ?_
            refine AOps_q 19 _ rfl rfl rfl (QOp_add _ _ _ _ _ _ _ rfl rfl rfl) ?_
            refine AOps_q 5 _ rfl rfl rfl (QOp_assign _ _ rfl rfl) ?_
            refine AOps_nil ?_
            cases h
            exact Weak_keep 0 hm [1, 5, 9, 10, 11] [] _ _ rfl rfl rfl
          · have h := iteF hb5 h
            refine ACode_skip ?_
            cases h
            exact Weak_keep 0 hm [1, 5, 9, 10, 11] [] _ _ rfl rfl rfl
        intro E' H' hw
        refine ACode_weak hw ?_
        have h := hks6
        refine (ACode_region ?_)
        refine AOps_q 20 _ rfl rfl rfl (QOp_add _ _ _ _ _ _ _ rfl rfl rfl) ?_
        refine AOps_q 11 _ rfl rfl rfl (QOp_move _ _ rfl rfl) ?_
        refine AOps_nil ?_
        exact ⟨k0, _, _, Nat.lt_succ_self _, Weak_keep 0 hm [1, 5, 9, 10, 11] [] _ _ rfl rfl rfl, _, _, rfl, rfl, h⟩
      · have h := iteF hb3 h
        refine ACode_exit ?_
        cases h
        exact Weak_keep 0 hm [5] [] _ _ rfl rfl rfl
  intro E' H' hw
  refine ACode_weak hw ?_
  have h := hks7
  refine ACode_seq (ACode_region ?_)
  refine AOps_q 21 _ rfl rfl rfl (QOp_move _ _ rfl rfl) ?_
  refine AOps_q 4 _ rfl rfl rfl (QOp_assign _ _ rfl rfl) ?_
  refine AOps_nil ?_
  refine ACode_ret ?_
  cases h
  exact ⟨_, _, fun r a w h => ⟨r, h⟩, _, _, [], _, (.cons (ResV_tmp _ _ rfl) .nil), rfl, rfl, rfl, rfl, rfl⟩

-- (loop.example/g01362/impl.position).mover
def impl_position_mover (k : Nat) (p0 : Pos) : Option (Int) :=
  (impl_position_many k p0 0).bind fun r1 => (impl_position_many k p0 1).bind fun r2 => some (w64 (r1 - r2))
set_option maxRecDepth 100000 in
theorem impl_position_mover_ac (k : Nat) (p0 : Pos) (r : Int) (h : impl_position_mover k p0 = some r) : AC Tryd.prog 59 [.d (.agg (posD p0))] [] (fun res H' => res = [iV r] ∧ H' = []) := by
  refine AC_of_body true Tryd.func59 rfl Tryd.ntmps59 (rvs := [.tmp 2]) rfl rfl (fun G hG => ?_)
  have hm : G.H.length = 0 := by rw [hG]; rfl
  have hz : zeroG G.H = true := by rw [hG]; rfl
  unfold impl_position_mover at h
  refine ACode_seq (ACode_region ?_)
  refine AOps_boxI 1 _ _ (.agg (posD p0)) (posD p0) rfl (posD_one _) rfl rfl rfl rfl rfl ?_
  refine AOps_q 2 _ rfl rfl rfl (QOp_assign _ _ rfl rfl) ?_
  refine AOps_nil ?_
  refine ACode_seq (ACode_quiet mixed (by kernel_rfl) ?_)
  refine AQ_q 3 _ rfl rfl rfl (QOp_loadN_pv _ _ _ _ _ _ rfl Tryd.isAgg48 Tryd.sizeOf48 rfl (posD_all _) (posD_length _)) ?_
  obtain ⟨r1, hr1, h⟩ := bindO h
  refine AQ_call 4 _ _ _ _ _ _ _ _ _ rfl rfl rfl rfl rfl rfl rfl Tryd.call75 rfl rfl rfl (impl_position_many_ac k p0 0 _ hr1) ?_
  refine AQ_q 5 _ rfl rfl rfl (QOp_loadN_pv _ _ _ _ _ _ rfl Tryd.isAgg48 Tryd.sizeOf48 rfl (posD_all _) (posD_length _)) ?_
  obtain ⟨r2, hr2, h⟩ := bindO h
  refine AQ_call 6 _ _ _ _ _ _ _ _ _ rfl rfl rfl rfl rfl rfl rfl Tryd.call75 rfl rfl rfl (impl_position_many_ac k p0 1 _ hr2) ?_
  refine AQ_q 7 _ rfl rfl rfl (QOp_sub _ _ _ _ _ _ _ rfl rfl rfl) ?_
  refine AQ_q 2 _ rfl rfl rfl (QOp_assign _ _ rfl rfl) ?_
  refine AQ_nil ?_
  refine ACode_ret ?_
  cases h
  exact ⟨_, _, fun r a w h => ⟨r, h⟩, _, _, [], _, (.cons (ResV_tmp _ _ rfl) .nil), rfl, rfl, rfl, rfl, rfl⟩

-- loop.example/g01362/impl.number
def impl_number (p0 : Int) (p1 : Int) : Int :=
  w64 ((w64 ((w64 ((if p0 < p1 then p1 else p0) * (w64 ((if p0 < p1 then p1 else p0) - 1)))).tdiv 2)) + (if p1 < p0 then p1 else p0))
set_option maxRecDepth 100000 in
theorem impl_number_ac (p0 : Int) (p1 : Int) : AC Tryd.prog 52 [iV p0, iV p1] [] (fun res H' => res = [iV (impl_number p0 p1)] ∧ H' = []) := by
  refine AC_of_body true Tryd.func52 rfl Tryd.ntmps52 (rvs := [.tmp 4]) rfl rfl (fun G hG => ?_)
  have hm : G.H.length = 0 := by rw [hG]; rfl
  have hz : zeroG G.H = true := by rw [hG]; rfl
  obtain ⟨r, h⟩ : ∃ r, impl_number p0 p1 = r := ⟨_, rfl⟩
  rw [h]
  unfold impl_number at h
  refine ACode_seq (ACode_region ?_)
  refine AOps_q 4 _ rfl rfl rfl (QOp_assign _ _ rfl rfl) ?_
  refine AOps_nil ?_
  refine ACode_seq (ACode_region ?_)
  refine AOps_q 5 _ rfl rfl rfl (QOp_move _ _ rfl rfl) ?_
  refine AOps_q 6 _ rfl rfl rfl (QOp_move _ _ rfl rfl) ?_
  refine AOps_q 7 _ rfl rfl rfl (QOp_min _ _ _ _ _ _ rfl rfl rfl rfl rfl) ?_
  refine AOps_q 8 _ rfl rfl rfl (QOp_move _ _ rfl rfl) ?_
  refine AOps_q 9 _ rfl rfl rfl (QOp_move _ _ rfl rfl) ?_
  refine AOps_q 10 _ rfl rfl rfl (QOp_max _ _ _ _ _ _ rfl rfl rfl rfl rfl) ?_
  refine AOps_q 0 _ rfl rfl rfl (QOp_assign _ _ rfl rfl) ?_
  refine AOps_q 1 _ rfl rfl rfl (QOp_assign _ _ rfl rfl) ?_
  refine AOps_nil ?_
  refine ACode_seq (ACode_region ?_)
  refine AOps_q 11 _ rfl rfl rfl (QOp_move _ _ rfl rfl) ?_
  refine AOps_q 12 _ rfl rfl rfl (QOp_move _ _ rfl rfl) ?_
  refine AOps_q 13 _ rfl rfl rfl (QOp_sub _ _ _ _ _ _ _ rfl rfl rfl) ?_
  refine AOps_q 14 _ rfl rfl rfl (QOp_mul _ _ _ _ _ _ _ rfl rfl rfl) ?_
  refine AOps_q 15 _ rfl rfl rfl (QOp_quo _ _ _ _ _ _ _ (by decide) rfl rfl rfl) ?_
  refine AOps_q 16 _ rfl rfl rfl (QOp_move _ _ rfl rfl) ?_
  refine AOps_q 17 _ rfl rfl rfl (QOp_add _ _ _ _ _ _ _ rfl rfl rfl) ?_
  refine AOps_q 4 _ rfl rfl rfl (QOp_assign _ _ rfl rfl) ?_
  refine AOps_nil ?_
  refine ACode_ret ?_
  cases h
  exact ⟨_, _, fun r a w h => ⟨r, h⟩, _, _, [], _, (.cons (ResV_tmp _ _ rfl) .nil), rfl, rfl, rfl, rfl, rfl⟩

-- (loop.example/g01362/impl.position).triangles$1
def impl_position_triangles_c1 (p0 : Int) (p1 : Pos) (p2 : Int) : Option (Bool) :=
  (if 0 ≤ p0 ∧ p0 < (p1.l.length : Int) then some (!decide ((p1.l.getD p0.toNat 0) = p2)) else none)
set_option maxRecDepth 100000 in
theorem impl_position_triangles_c1_ac (p0 : Int) (p1 : Pos) (p2 : Int) (r : Bool) (h : impl_position_triangles_c1 p0 p1 p2 = some r) : AC Tryd.prog 76 [iV p0, .d (.pv (posD p1) 0), .d (.pv ([iD p2]) 0)] [] (fun res H' => res = [bV r] ∧ H' = []) := by
  refine AC_of_body true Tryd.func76 rfl Tryd.ntmps76 (rvs := [.tmp 4]) rfl rfl (fun G hG => ?_)
  have hm : G.H.length = 0 := by rw [hG]; rfl
  have hz : zeroG G.H = true := by rw [hG]; rfl
  unfold impl_position_triangles_c1 at h
  refine ACode_seq (ACode_region ?_)
  refine AOps_q 4 _ rfl rfl rfl (QOp_assign _ _ rfl rfl) ?_
  refine AOps_nil ?_
  refine ACode_seq (ACode_quiet mixed (by kernel_rfl) ?_)
  refine AQ_q 5 _ rfl rfl rfl (QOp_fieldAddr_pv _ _ _ _ _ 1 _ _ rfl Tryd.underlying48 rfl _ Tryd.sizeOf30 rfl rfl) ?_
  refine AQ_q 6 _ rfl rfl rfl (QOp_load_pv _ _ _ _ _ rfl Tryd.isAgg30 rfl rfl) ?_
  refine AQ_q 7 _ rfl rfl rfl (QOp_move _ _ rfl rfl) ?_
  obtain ⟨hc1, h⟩ := guardO h
  refine AQ_q 8 _ rfl rfl rfl (QOp_indexAddr_sl _ _ _ _ _ _ _ _ rfl Tryd.underlying30 Tryd.sizeOf2 hc1.1 (by rw [intsD_length]; exact hc1.2) rfl rfl) ?_
  refine AQ_q 9 _ rfl rfl rfl (QOp_load_pv _ _ _ _ _ rfl Tryd.isAgg2 rfl (intsD_get _ _ 0 (by omega))) ?_
  refine AQ_q 10 _ rfl rfl rfl (QOp_load_pv _ _ _ _ _ rfl Tryd.isAgg2 rfl rfl) ?_
  refine AQ_q 11 _ rfl rfl rfl (QOp_neq _ _ _ _ _ _ _ rfl rfl rfl) ?_
  refine AQ_q 4 _ rfl rfl rfl (QOp_assign _ _ rfl rfl) ?_
  refine AQ_nil ?_
  refine ACode_ret ?_
  cases h
  exact ⟨_, _, fun r a w h => ⟨r, h⟩, _, _, [], _, (.cons (ResV_tmp _ _ rfl) .nil), rfl, rfl, rfl, rfl, rfl⟩

-- (loop.example/g01362/impl.position).triangles
def impl_position_triangles_l2 (k : Nat) (p0 : Pos) (p1 : Int) (x1 : Int) (x4 : Int) : Nat → Int → (List (List Int)) → Option (List (List Int))
  | 0, _, _ => none
  | k2 + 1, x7, x8 => (if decide (x7 < x4) then ((slices_ContainsFunc k ([(impl_number x7 x4), (impl_number x7 x1), (impl_number x4 x1)]) (fun a0 => impl_position_triangles_c1 a0 p0 p1)).bind fun r13 => (if !r13 then (if x8.length + ([[(impl_number x7 x4), (impl_number x7 x1), (impl_number x4 x1)]]).length ≤ 1099511627776 then some (x8 ++ ([[(impl_number x7 x4), (impl_number x7 x1), (impl_number x4 x1)]])) else none) else some x8) : Option (List (List Int))).bind fun s16 => impl_position_triangles_l2 k p0 p1 x1 x4 k2 (w64 (x7 + 1)) s16 else some x8)
def impl_position_triangles_l1 (k : Nat) (p0 : Pos) (p1 : Int) (x1 : Int) : Nat → Int → (List (List Int)) → Option (List (List Int))
  | 0, _, _ => none
  | k1 + 1, x4, x5 => (if decide (x4 < x1) then (impl_position_triangles_l2 k p0 p1 x1 x4 k 0 x5 : Option (List (List Int))).bind fun s17 => impl_position_triangles_l1 k p0 p1 x1 k1 (w64 (x4 + 1)) s17 else some x5)
def impl_position_triangles_l0 (k : Nat) (p0 : Pos) (p1 : Int) : Nat → Int → (List (List Int)) → Option (List (List Int))
  | 0, _, _ => none
  | k0 + 1, x1, x2 => (if decide (x1 < p0.n) then (impl_position_triangles_l1 k p0 p1 x1 k 0 x2 : Option (List (List Int))).bind fun s18 => impl_position_triangles_l0 k p0 p1 k0 (w64 (x1 + 1)) s18 else some x2)
def impl_position_triangles (k : Nat) (p0 : Pos) (p1 : Int) : Option (List (List Int)) :=
  (impl_position_triangles_l0 k p0 p1 k 0 ([] : List (List Int)) : Option (List (List Int))).bind fun s19 => some s19
set_option maxRecDepth 100000 in
theorem impl_position_triangles_ac (k : Nat) (p0 : Pos) (p1 : Int) (r : List (List Int)) (h : impl_position_triangles k p0 p1 = some r) : AC Tryd.prog 60 [.d (.agg (posD p0)), iV p1] [] (fun res H' => res = [.vec 0 0] ∧ H' = [.vec 0 (rowsD r)]) := by
  refine AC_of_body true Tryd.func60 rfl Tryd.ntmps60 (rvs := [.tmp 4]) rfl rfl (fun G hG => ?_)
  have hm : G.H.length = 0 := by rw [hG]; rfl
  have hz : zeroG G.H = true := by rw [hG]; rfl
  unfold impl_position_triangles at h
  refine ACode_seq (ACode_region ?_)
  refine AOps_boxI 2 _ _ (.agg (posD p0)) (posD p0) rfl (posD_one _) rfl rfl rfl rfl rfl ?_
  refine AOps_boxI 3 _ _ (iD p1) _ rfl (fun c hc => by cases hc with | head => rfl | tail _ h => cases h) rfl rfl rfl rfl rfl ?_
  refine AOps_q 4 _ rfl rfl rfl (QOp_assign _ _ rfl rfl) ?_
  refine AOps_nil ?_
  refine ACode_seq (ACode_region ?_)
  refine AOps_buildSlice 10 _ _ _ [] (rowsD ([] : List (List Int))) _ rfl rfl rfl rfl rfl (by decide) Tryd.underlying82 Tryd.sizeOf30 (zero_of Tryd.typeInfo30 rfl) rfl rfl (rowsD_one _) ?_
  refine AOps_q 5 _ rfl rfl rfl (QOp_assign _ _ rfl rfl) ?_
  refine AOps_nil ?_
  obtain ⟨s19, hss19, hks19⟩ := bindO h
  clear h
  refine ACode_seqJ (fun E' H' => Weak 46 G E' H' [(5, .vec 0 0)] [.vec 0 (rowsD s19)]) ?_ ?_
  · have h := hss19
    clear hss19
    refine ACode_seq (ACode_region ?_)
    refine AOps_q 11 _ rfl rfl rfl (QOp_fieldAddr_pv _ _ _ _ _ 0 _ _ rfl Tryd.underlying48 rfl _ Tryd.sizeOf2 rfl rfl) ?_
    refine AOps_q 12 _ rfl rfl rfl (QOp_load_pv _ _ _ _ _ rfl Tryd.isAgg2 rfl rfl) ?_
    refine AOps_q 13 _ rfl rfl rfl (QOp_move _ _ rfl rfl) ?_
    refine AOps_nil ?_
    refine ACode_block ?_
    refine ACode_loopW (fun k0 E H => ∃ (x1 : Int) (x2 : List (List Int)), E = [(2, .d (.pv (posD p0) 0)), (3, .d (.pv ([iD p1]) 0)), (5, .vec 0 0), (12, iV p0.n), (13, iV x1)] ∧ H = [.vec 0 (rowsD x2)] ∧ impl_position_triangles_l0 k p0 p1 k0 x1 x2 = some s19) k _ _ (Weak_keep 0 hm [2, 3, 5, 12, 13] [0] _ _ rfl rfl rfl) ⟨_, _, rfl, rfl, h⟩ ?_
    clear h
    rintro k0 E H ⟨x1, x2, rfl, rfl, h⟩
    cases k0 with
    | zero => cases (show (none : Option (List (List Int))) = some _ from h)
    | succ k0 =>
      rw [impl_position_triangles_l0] at h
      refine ACode_seq (ACode_region ?_)
      refine AOps_q 14 _ rfl rfl rfl (QOp_lss _ _ _ _ _ _ _ rfl rfl rfl) ?_
      refine AOps_nil ?_
      refine ACode_seq ?_
      refine ACode_cond _ rfl (fun hb3 => ?_) (fun hb3 => ?_)
      · have h := iteT hb3 h
        refine ACode_skip ?_
        obtain ⟨s18, hss18, hks18⟩ := bindO h
        clear h
        refine ACode_seqJ (fun E' H' => Weak 46 G E' H' [(2, .d (.pv (posD p0) 0)), (3, .d (.pv ([iD p1]) 0)), (5, .vec 0 0), (12, iV p0.n), (13, iV x1)] [.vec 0 (rowsD s18)]) ?_ ?_
        · have h := hss18
          clear hss18
          refine ACode_block ?_
          refine ACode_seq (ACode_region ?_)
          refine AOps_q 15 _ rfl rfl rfl (QOp_move _ _ rfl rfl) ?_
          refine AOps_q 6 _ rfl rfl rfl (QOp_assign _ _ rfl rfl) ?_
          refine AOps_nil ?_
          refine ACode_seq (ACode_region ?_)
          refine AOps_q 16 _ rfl rfl rfl (QOp_move _ _ rfl rfl) ?_
          refine AOps_q 17 _ rfl rfl rfl (QOp_move _ _ rfl rfl) ?_
          refine AOps_nil ?_
          refine ACode_block ?_
          refine ACode_loopW (fun k1 E H => ∃ (x4 : Int) (x5 : List (List Int)), E = [(2, .d (.pv (posD p0) 0)), (3, .d (.pv ([iD p1]) 0)), (5, .vec 0 0), (6, iV x1), (12, iV p0.n), (13, iV x1), (16, iV x1), (17, iV x4)] ∧ H = [.vec 0 (rowsD x5)] ∧ impl_position_triangles_l1 k p0 p1 x1 k1 x4 x5 = some s18) k _ _ (Weak_keep 0 hm [2, 3, 5, 6, 12, 13, 16, 17] [0] _ _ rfl rfl rfl) ⟨_, _, rfl, rfl, h⟩ ?_
          clear h
          rintro k1 E H ⟨x4, x5, rfl, rfl, h⟩
          cases k1 with
          | zero => cases (show (none : Option (List (List Int))) = some _ from h)
          | succ k1 =>
            rw [impl_position_triangles_l1] at h
            refine ACode_seq (ACode_region ?_)
            refine AOps_q 18 _ rfl rfl rfl (QOp_lss _ _ _ _ _ _ _ rfl rfl rfl) ?_
            refine AOps_nil ?_
            refine ACode_seq ?_
            refine ACode_cond _ rfl (fun hb6 => ?_) (fun hb6 => ?_)
            · have h := iteT hb6 h
              refine ACode_skip ?_
              obtain ⟨s17, hss17, hks17⟩ := bindO h
              clear h
              refine ACode_seqJ (fun E' H' => Weak 46 G E' H' [(2, .d (.pv (posD p0) 0)), (3, .d (.pv ([iD p1]) 0)), (5, .vec 0 0), (6, iV x1), (12, iV p0.n), (13, iV x1), (16, iV x1), (17, iV x4)] [.vec 0 (rowsD s17)]) ?_ ?_
              · have h := hss17
                clear hss17
                refine ACode_block ?_
                refine ACode_seq (ACode_region ?_)
                refine AOps_q 19 _ rfl rfl rfl (QOp_move _ _ rfl rfl) ?_
                refine AOps_q 7 _ rfl rfl rfl (QOp_assign _ _ rfl rfl) ?_
                refine AOps_nil ?_
                refine ACode_seq (ACode_region ?_)
                refine AOps_q 20 _ rfl rfl rfl (QOp_move _ _ rfl rfl) ?_
                refine AOps_q 21 _ rfl rfl rfl (QOp_move _ _ rfl rfl) ?_
                refine AOps_nil ?_
                refine ACode_block ?_
                refine ACode_loopW (fun k2 E H => ∃ (x7 : Int) (x8 : List (List Int)), E = [(2, .d (.pv (posD p0) 0)), (3, .d (.pv ([iD p1]) 0)), (5, .vec 0 0), (6, iV x1), (7, iV x4), (12, iV p0.n), (13, iV x1), (16, iV x1), (17, iV x4), (20, iV x4), (21, iV x7)] ∧ H = [.vec 0 (rowsD x8)] ∧ impl_position_triangles_l2 k p0 p1 x1 x4 k2 x7 x8 = some s17) k _ _ (Weak_keep 0 hm [2, 3, 5, 6, 7, 12, 13, 16, 17, 20, 21] [0] _ _ rfl rfl rfl) ⟨_, _, rfl, rfl, h⟩ ?_
                clear h
                rintro k2 E H ⟨x7, x8, rfl, rfl, h⟩
                cases k2 with
                | zero => cases (show (none : Option (List (List Int))) = some _ from h)
                | succ k2 =>
                  rw [impl_position_triangles_l2] at h
                  refine ACode_seq (ACode_region ?_)
                  refine AOps_q 22 _ rfl rfl rfl (QOp_lss _ _ _ _ _ _ _ rfl rfl rfl) ?_
                  refine AOps_nil ?_
                  refine ACode_seq ?_
                  refine ACode_cond _ rfl (fun hb9 => ?_) (fun hb9 => ?_)
                  · have h := iteT hb9 h
                    refine ACode_skip ?_
                    obtain ⟨s16, hss16, hks16⟩ := bindO h
                    clear h
                    refine ACode_seqJ (fun E' H' => Weak 46 G E' H' [(2, .d (.pv (posD p0) 0)), (3, .d (.pv ([iD p1]) 0)), (5, .vec 0 0), (6, iV x1), (7, iV x4), (12, iV p0.n), (13, iV x1), (16, iV x1), (17, iV x4), (20, iV x4), (21, iV x7)] [.vec 0 (rowsD s16)]) ?_ ?_
                    · have h := hss16
                      clear hss16
                      refine ACode_block ?_
                      refine ACode_seq (ACode_region ?_)
                      refine AOps_q 23 _ rfl rfl rfl (QOp_move _ _ rfl rfl) ?_
                      refine AOps_q 8 _ rfl rfl rfl (QOp_assign _ _ rfl rfl) ?_
                      refine AOps_nil ?_
                      refine ACode_seq (ACode_region ?_)
                      refine AOps_q 24 _ rfl rfl rfl (QOp_move _ _ rfl rfl) ?_
                      refine AOps_q 25 _ rfl rfl rfl (QOp_move _ _ rfl rfl) ?_
                      refine AOps_call [] 26 _ _ _ _ _ _ _ _ _ _ rfl rfl rfl rfl rfl rfl rfl Tryd.call52 rfl (nodupB_sound _ rfl) rfl rfl rfl (impl_number_ac x7 x4) ?_
                      rintro _ _ ⟨rfl, rfl⟩
                      refine ⟨(fun _ h => nomatch h), (allc (trivial) (fun _ h => nomatch h)), AOps_as 26 (v' := iV (impl_number x7 x4)) (H' := [.vec 0 (rowsD x8)]) rfl rfl ?_⟩
                      refine AOps_q 27 _ rfl rfl rfl (QOp_move _ _ rfl rfl) ?_
                      refine AOps_q 28 _ rfl rfl rfl (QOp_move _ _ rfl rfl) ?_
                      refine AOps_call [] 29 _ _ _ _ _ _ _ _ _ _ rfl rfl rfl rfl rfl rfl rfl Tryd.call52 rfl (nodupB_sound _ rfl) rfl rfl rfl (impl_number_ac x7 x1) ?_
                      rintro _ _ ⟨rfl, rfl⟩
                      refine ⟨(fun _ h => nomatch h), (allc (trivial) (fun _ h => nomatch h)), AOps_as 29 (v' := iV (impl_number x7 x1)) (H' := [.vec 0 (rowsD x8)]) rfl rfl ?_⟩
                      refine AOps_q 30 _ rfl rfl rfl (QOp_move _ _ rfl rfl) ?_
                      refine AOps_q 31 _ rfl rfl rfl (QOp_move _ _ rfl rfl) ?_
                      refine AOps_call [] 32 _ _ _ _ _ _ _ _ _ _ rfl rfl rfl rfl rfl rfl rfl Tryd.call52 rfl (nodupB_sound _ rfl) rfl rfl rfl (impl_number_ac x4 x1) ?_
                      rintro _ _ ⟨rfl, rfl⟩
                      refine ⟨(fun _ h => nomatch h), (allc (trivial) (fun _ h => nomatch h)), AOps_as 32 (v' := iV (impl_number x4 x1)) (H' := [.vec 0 (rowsD x8)]) rfl rfl ?_⟩
                      refine AOps_buildSlice 33 _ _ _ [_, _, _] (intsD ([(impl_number x7 x4), (impl_number x7 x1), (impl_number x4 x1)])) _ rfl rfl rfl rfl rfl (by decide) Tryd.underlying30 Tryd.sizeOf2 (zero_of Tryd.typeInfo2 rfl) rfl rfl (intsD_one _) ?_
                      refine AOps_q 9 _ rfl rfl rfl (QOp_assign _ _ rfl rfl) ?_
                      refine AOps_nil ?_
                      refine ACode_seq (ACode_region ?_)
                      refine AOps_q 34 _ rfl rfl rfl (QOp_move _ _ rfl rfl) ?_
                      refine AOps_q 35 _ rfl rfl rfl (QOp_makeFuncD _ _ _ _ rfl rfl rfl) ?_
                      obtain ⟨r13, hr13, h⟩ := bindO h
                      refine AOps_callL [] 36 _ _ _ _ _ _ _ _ _ _ rfl rfl rfl rfl rfl rfl rfl Tryd.call73 rfl (nodupB_sound _ rfl) rfl rfl rfl (slices_ContainsFunc_ac k ([(impl_number x7 x4), (impl_number x7 x1), (impl_number x4 x1)]) (fun a0 => impl_position_triangles_c1 a0 p0 p1) 76 ([.pv (posD p0) 0, .pv ([iD p1]) 0]) Tryd.call76 (fun a0 r h => impl_position_triangles_c1_ac a0 p0 p1 r h) _ hr13) ?_
                      rintro _ _ ⟨rfl, rfl⟩
                      refine ⟨(fun _ h => nomatch h), (allc (flat_s _) (fun _ h => nomatch h)), AOps_as 36 (v' := bV r13) (H' := [.vec 0 (rowsD x8), .vec 0 (intsD ([(impl_number x7 x4), (impl_number x7 x1), (impl_number x4 x1)]))]) rfl rfl ?_⟩
                      refine AOps_q 37 _ rfl rfl rfl (QOp_not _ _ _ rfl rfl) ?_
                      refine AOps_nil ?_
                      refine ACode_cond _ rfl (fun hb14 => ?_) (fun hb14 => ?_)
                      · have h := iteT hb14 h
                        refine (ACode_region ?_)
                        refine AOps_q 38 _ rfl rfl rfl (QOp_move _ _ rfl rfl) ?_
                        refine AOps_q 39 _ rfl rfl rfl (QOp_move _ _ rfl rfl) ?_
                        refine AOps_freeze 39 1 0 _ rfl rfl ?_
                        refine AOps_buildSlice 40 _ _ _ [_] (rowsD ([[(impl_number x7 x4), (impl_number x7 x1), (impl_number x4 x1)]])) _ rfl rfl rfl rfl rfl (by decide) Tryd.underlying82 Tryd.sizeOf30 (zero_of Tryd.typeInfo30 rfl) rfl rfl (rowsD_one _) ?_
                        obtain ⟨hc15, h⟩ := guardO h
                        refine AOps_append 41 _ _ _ _ _ _ _ _ _ _ _ _ rfl rfl rfl rfl rfl rfl rfl Tryd.underlying82 Tryd.type30 rfl rfl rfl (by decide) rfl rfl rfl rfl (rowsD_one _) (by rw [rowsD_length, rowsD_length]; exact hc15) ?_
                        rw [rowsD_app]
                        refine AOps_q 5 _ rfl rfl rfl (QOp_assign _ _ rfl rfl) ?_
                        refine AOps_nil ?_
                        cases h
                        exact Weak_trans (Weak_keep 0 hm [2, 3, 5, 6, 7, 12, 13, 16, 17, 20, 21] [0] _ _ rfl rfl rfl) (Weak_reset 0 hm hz [2, 3, 5, 6, 7, 12, 13, 16, 17, 20, 21] _ _ rfl rfl)
                      · have h := iteF hb14 h
                        refine ACode_skip ?_
                        cases h
                        exact Weak_keep 0 hm [2, 3, 5, 6, 7, 12, 13, 16, 17, 20, 21] [0] _ _ rfl rfl rfl
                    intro E' H' hw
                    refine ACode_weak hw ?_
                    have h := hks16
                    refine (ACode_region ?_)
                    refine AOps_q 42 _ rfl rfl rfl (QOp_add _ _ _ _ _ _ _ rfl rfl rfl) ?_
                    refine AOps_q 21 _ rfl rfl rfl (QOp_move _ _ rfl rfl) ?_
                    refine AOps_nil ?_
                    exact ⟨k2, _, _, Nat.lt_succ_self _, Weak_keep 0 hm [2, 3, 5, 6, 7, 12, 13, 16, 17, 20, 21] [0] _ _ rfl rfl rfl, _, _, rfl, rfl, h⟩
                  · have h := iteF hb9 h
                    refine ACode_exit ?_
                    cases h
                    exact Weak_keep 0 hm [2, 3, 5, 6, 12, 13, 16, 17] [0] _ _ rfl rfl rfl
              intro E' H' hw
              refine ACode_weak hw ?_
              have h := hks17
              refine (ACode_region ?_)
              refine AOps_q 43 _ rfl rfl rfl (QOp_add _ _ _ _ _ _ _ rfl rfl rfl) ?_
              refine AOps_q 17 _ rfl rfl rfl (QOp_move _ _ rfl rfl) ?_
              refine AOps_nil ?_
              exact ⟨k1, _, _, Nat.lt_succ_self _, Weak_keep 0 hm [2, 3, 5, 6, 12, 13, 16, 17] [0] _ _ rfl rfl rfl, _, _, rfl, rfl, h⟩
            · have h := iteF hb6 h
              refine ACode_exit ?_
              cases h
              exact Weak_keep 0 hm [2, 3, 5, 12, 13] [0] _ _ rfl rfl rfl
        intro E' H' hw
        refine ACode_weak hw ?_
        have h := hks18
        refine (ACode_region ?_)
        refine AOps_q 44 _ rfl rfl rfl (QOp_add _ _ _ _ _ _ _ rfl rfl rfl) ?_
        refine AOps_q 13 _ rfl rfl rfl (QOp_move _ _ rfl rfl) ?_
        refine AOps_nil ?_
        exact ⟨k0, _, _, Nat.lt_succ_self _, Weak_keep 0 hm [2, 3, 5, 12, 13] [0] _ _ rfl rfl rfl, _, _, rfl, rfl, h⟩
      · have h := iteF hb3 h
        refine ACode_exit ?_
        cases h
        exact Weak_keep 0 hm [5] [0] _ _ rfl rfl rfl
  intro E' H' hw
  refine ACode_weak hw ?_
  have h := hks19
  refine ACode_seq (ACode_region ?_)
  refine AOps_q 45 _ rfl rfl rfl (QOp_move _ _ rfl rfl) ?_
  refine AOps_q 4 _ rfl rfl rfl (QOp_assign _ _ rfl rfl) ?_
  refine AOps_nil ?_
  refine ACode_ret ?_
  cases h
  exact ⟨_, _, Weak_reset 0 hm hz [4] _ _ rfl rfl, _, _, [0], _, (.cons (ResV_tmp _ _ rfl) .nil), rfl, rfl, rfl, rfl, rfl⟩

-- slices.IndexFunc[[][]int64,[]int64]
def slices_IndexFunc_R_l0 (p0 : List (List Int)) (p1 : (List Int) → Option (Bool)) : Nat → Int → Option (Sum (Unit) (Int))
  | 0, _ => none
  | k0 + 1, x1 => (if decide (x1 < (p0.length : Int)) then (if 0 ≤ x1 ∧ x1 < (p0.length : Int) then (p1 (p0.getD x1.toNat [])).bind fun r4 => (if r4 then some (.inr x1) else slices_IndexFunc_R_l0 p0 p1 k0 (w64 (x1 + 1))) else none) else some (.inl ()))
def slices_IndexFunc_R (k : Nat) (p0 : List (List Int)) (p1 : (List Int) → Option (Bool)) : Option (Int) :=
  (slices_IndexFunc_R_l0 p0 p1 k 0 : Option (Sum (Unit) (Int))).bind fun os6 => (match os6 with | .inl s6 => some (-1) | .inr rr => some rr)
set_option maxRecDepth 100000 in
theorem slices_IndexFunc_R_ac (k : Nat) (p0 : List (List Int)) (p1 : (List Int) → Option (Bool)) (g_p1 : FuncId) (c_p1 : List D) (hg_p1 : ∀ args w, (callFunc g_p1 args).run Tryd.prog w = .ok (.enter g_p1 args) w) (hf_p1 : ∀ (a0 : List Int) (r : Bool), p1 a0 = some r → AC Tryd.prog g_p1 ([.d (.sl none (intsD a0))] ++ c_p1.map AV.d) [] (fun res H' => res = [bV r] ∧ H' = [])) (r : Int) (h : slices_IndexFunc_R k p0 p1 = some r) : AC Tryd.prog 77 [.d (.sl none (rowsD p0)), .d (.clo g_p1 c_p1)] [] (fun res H' => res = [iV r] ∧ H' = []) := by
  refine AC_of_body true Tryd.func77 rfl Tryd.ntmps77 (rvs := [.tmp 4]) rfl rfl (fun G hG => ?_)
  have hm : G.H.length = 0 := by rw [hG]; rfl
  have hz : zeroG G.H = true := by rw [hG]; rfl
  unfold slices_IndexFunc_R at h
  refine ACode_seq (ACode_region ?_)
  refine AOps_q 4 _ rfl rfl rfl (QOp_assign _ _ rfl rfl) ?_
  refine AOps_nil ?_
  obtain ⟨os6, hss6, hks6⟩ := bindO h
  clear h
  refine ACode_seqJ (fun E' H' => ∃ s6 : Unit, os6 = .inl s6 ∧ Weak 19 G E' H' [] []) ?_ ?_
  · have h := hss6
    clear hss6
    refine ACode_seq (ACode_region ?_)
    refine AOps_q 6 _ rfl rfl rfl (QOp_move _ _ rfl rfl) ?_
    refine AOps_q 7 _ rfl rfl rfl (QOp_len_sl _ _ _ _ _ _ _ (rowsD_length _) rfl rfl rfl rfl Tryd.underlying82 rfl) ?_
    refine AOps_q 8 _ rfl rfl rfl (QOp_move _ _ rfl rfl) ?_
    refine AOps_nil ?_
    refine ACode_block ?_
    refine ACode_loopW (fun k0 E H => ∃ (x1 : Int), E = [(0, .d (.sl none (rowsD p0))), (1, .d (.clo g_p1 c_p1)), (7, iV (p0.length : Int)), (8, iV x1)] ∧ H = [] ∧ slices_IndexFunc_R_l0 p0 p1 k0 x1 = some os6) k _ _ (Weak_keep 0 hm [0, 1, 7, 8] [] _ _ rfl rfl rfl) ⟨_, rfl, rfl, h⟩ ?_
    clear h
    rintro k0 E H ⟨x1, rfl, rfl, h⟩
    cases k0 with
    | zero => cases (show (none : Option (Sum (Unit) (Int))) = some _ from h)
    | succ k0 =>
      rw [slices_IndexFunc_R_l0] at h
      refine ACode_seq (ACode_region ?_)
      refine AOps_q 9 _ rfl rfl rfl (QOp_lss _ _ _ _ _ _ _ rfl rfl rfl) ?_
      refine AOps_nil ?_
      refine ACode_seq ?_
      refine ACode_cond _ rfl (fun hb2 => ?_) (fun hb2 => ?_)
      · have h := iteT hb2 h
        refine ACode_skip ?_
        refine ACode_seq ?_
        refine ACode_block ?_
        refine ACode_seq (ACode_region ?_)
        refine AOps_q 10 _ rfl rfl rfl (QOp_move _ _ rfl rfl) ?_
        refine AOps_q 5 _ rfl rfl rfl (QOp_assign _ _ rfl rfl) ?_
        refine AOps_nil ?_
        refine ACode_seq (ACode_region ?_)
        refine AOps_q 11 _ rfl rfl rfl (QOp_move _ _ rfl rfl) ?_
        refine AOps_q 12 _ rfl rfl rfl (QOp_move _ _ rfl rfl) ?_
        refine AOps_q 13 _ rfl rfl rfl (QOp_move _ _ rfl rfl) ?_
        obtain ⟨hc3, h⟩ := guardO h
        refine AOps_q 14 _ rfl rfl rfl (QOp_indexAddr_sl _ _ _ _ _ _ _ _ rfl Tryd.underlying82 Tryd.sizeOf30 hc3.1 (by rw [rowsD_length]; exact hc3.2) rfl rfl) ?_
        refine AOps_q 15 _ rfl rfl rfl (QOp_load_pv _ _ _ _ _ rfl Tryd.isAgg30 rfl (rowsD_get _ _ [] (by omega))) ?_
        obtain ⟨r4, hr4, h⟩ := bindO h
        refine AOps_call [] 16 _ _ _ _ _ _ _ _ _ _ rfl rfl rfl rfl rfl rfl rfl hg_p1 rfl (nodupB_sound _ rfl) rfl rfl (viewA_mapD _) (hf_p1 (p0.getD x1.toNat []) _ hr4) ?_
        rintro _ _ ⟨rfl, rfl⟩
        refine ⟨(fun _ h => nomatch h), (allc (trivial) (fun _ h => nomatch h)), AOps_as 16 (v' := bV r4) (H' := []) rfl rfl ?_⟩
        refine AOps_nil ?_
        refine ACode_cond _ rfl (fun hb5 => ?_) (fun hb5 => ?_)
        · have h := iteT hb5 h
          refine ACode_seq (ACode_region ?_)
          refine AOps_q 17 _ rfl rfl rfl (QOp_move _ _ rfl rfl) ?_
          refine AOps_q 4 _ rfl rfl rfl (QOp_assign _ _ rfl rfl) ?_
          refine AOps_nil ?_
          refine ACode_ret ?_
          cases h
          have h := hks6
          cases h
          exact ⟨_, _, fun r a w h => ⟨r, h⟩, _, _, [], _, (.cons (ResV_tmp _ _ rfl) .nil), rfl, rfl, rfl, rfl, rfl⟩
        · have h := iteF hb5 h
          refine ACode_skip ?_
          refine (ACode_region ?_)
          refine AOps_q 18 _ rfl rfl rfl (QOp_add _ _ _ _ _ _ _ rfl rfl rfl) ?_
          refine AOps_q 8 _ rfl rfl rfl (QOp_move _ _ rfl rfl) ?_
          refine AOps_nil ?_
          exact ⟨k0, _, _, Nat.lt_succ_self _, Weak_keep 0 hm [0, 1, 7, 8] [] _ _ rfl rfl rfl, _, rfl, rfl, h⟩
      · have h := iteF hb2 h
        refine ACode_exit ?_
        cases h
        exact ⟨_, rfl, Weak_keep 0 hm [] [] _ _ rfl rfl rfl⟩
  rintro E' H' ⟨s6, rfl, hw⟩
  refine ACode_weak hw ?_
  have h := hks6
  refine ACode_seq (ACode_region ?_)
  refine AOps_q 4 _ rfl rfl rfl (QOp_assign _ _ rfl rfl) ?_
  refine AOps_nil ?_
  refine ACode_ret ?_
  cases h
  exact ⟨_, _, fun r a w h => ⟨r, h⟩, _, _, [], _, (.cons (ResV_tmp _ _ rfl) .nil), rfl, rfl, rfl, rfl, rfl⟩

-- slices.ContainsFunc[[][]int64,[]int64]
def slices_ContainsFunc_R (k : Nat) (p0 : List (List Int)) (p1 : (List Int) → Option (Bool)) : Option (Bool) :=
  (slices_IndexFunc_R k p0 p1).bind fun r1 => some (decide (0 ≤ r1))
set_option maxRecDepth 100000 in
theorem slices_ContainsFunc_R_ac (k : Nat) (p0 : List (List Int)) (p1 : (List Int) → Option (Bool)) (g_p1 : FuncId) (c_p1 : List D) (hg_p1 : ∀ args w, (callFunc g_p1 args).run Tryd.prog w = .ok (.enter g_p1 args) w) (hf_p1 : ∀ (a0 : List Int) (r : Bool), p1 a0 = some r → AC Tryd.prog g_p1 ([.d (.sl none (intsD a0))] ++ c_p1.map AV.d) [] (fun res H' => res = [bV r] ∧ H' = [])) (r : Bool) (h : slices_ContainsFunc_R k p0 p1 = some r) : AC Tryd.prog 62 [.d (.sl none (rowsD p0)), .d (.clo g_p1 c_p1)] [] (fun res H' => res = [bV r] ∧ H' = []) := by
  refine AC_of_body true Tryd.func62 rfl Tryd.ntmps62 (rvs := [.tmp 4]) rfl rfl (fun G hG => ?_)
  have hm : G.H.length = 0 := by rw [hG]; rfl
  have hz : zeroG G.H = true := by rw [hG]; rfl
  unfold slices_ContainsFunc_R at h
  refine ACode_seq (ACode_region ?_)
  refine AOps_q 4 _ rfl rfl rfl (QOp_assign _ _ rfl rfl) ?_
  refine AOps_nil ?_
  refine ACode_seq (ACode_region ?_)
  refine AOps_q 5 _ rfl rfl rfl (QOp_move _ _ rfl rfl) ?_
  refine AOps_q 6 _ rfl rfl rfl (QOp_move _ _ rfl rfl) ?_
  obtain ⟨r1, hr1, h⟩ := bindO h
  refine AOps_call [] 7 _ _ _ _ _ _ _ _ _ _ rfl rfl rfl rfl rfl rfl rfl Tryd.call77 rfl (nodupB_sound _ rfl) rfl rfl rfl (slices_IndexFunc_R_ac k p0 p1 g_p1 c_p1 hg_p1 hf_p1 _ hr1) ?_
  rintro _ _ ⟨rfl, rfl⟩
  refine ⟨(fun _ h => nomatch h), (allc (trivial) (fun _ h => nomatch h)), AOps_as 7 (v' := iV r1) (H' := []) rfl rfl ?_⟩
  refine AOps_q 8 _ rfl rfl rfl (QOp_geq _ _ _ _ _ _ _ rfl rfl rfl) ?_
  refine AOps_q 4 _ rfl rfl rfl (QOp_assign _ _ rfl rfl) ?_
  refine AOps_nil ?_
  refine ACode_ret ?_
  cases h
  exact ⟨_, _, fun r a w h => ⟨r, h⟩, _, _, [], _, (.cons (ResV_tmp _ _ rfl) .nil), rfl, rfl, rfl, rfl, rfl⟩

-- slices.Index[[]int64,int64]
def slices_Index_l0 (p0 : List Int) (p1 : Int) : Nat → Int → Option (Sum (Unit) (Int))
  | 0, _ => none
  | k0 + 1, x1 => (if decide (x1 < (p0.length : Int)) then (if 0 ≤ x1 ∧ x1 < (p0.length : Int) then (if decide (p1 = (p0.getD x1.toNat 0)) then some (.inr x1) else slices_Index_l0 p0 p1 k0 (w64 (x1 + 1))) else none) else some (.inl ()))
def slices_Index (k : Nat) (p0 : List Int) (p1 : Int) : Option (Int) :=
  (slices_Index_l0 p0 p1 k 0 : Option (Sum (Unit) (Int))).bind fun os5 => (match os5 with | .inl s5 => some (-1) | .inr rr => some rr)
set_option maxRecDepth 100000 in
theorem slices_Index_ac (k : Nat) (p0 : List Int) (p1 : Int) (r : Int) (h : slices_Index k p0 p1 = some r) : AC Tryd.prog 78 [.d (.sl none (intsD p0)), iV p1] [] (fun res H' => res = [iV r] ∧ H' = []) := by
  refine AC_of_body true Tryd.func78 rfl Tryd.ntmps78 (rvs := [.tmp 4]) rfl rfl (fun G hG => ?_)
  have hm : G.H.length = 0 := by rw [hG]; rfl
  have hz : zeroG G.H = true := by rw [hG]; rfl
  unfold slices_Index at h
  refine ACode_seq (ACode_region ?_)
  refine AOps_q 4 _ rfl rfl rfl (QOp_assign _ _ rfl rfl) ?_
  refine AOps_nil ?_
  obtain ⟨os5, hss5, hks5⟩ := bindO h
  clear h
  refine ACode_seqJ (fun E' H' => ∃ s5 : Unit, os5 = .inl s5 ∧ Weak 19 G E' H' [] []) ?_ ?_
  · have h := hss5
    clear hss5
    refine ACode_seq (ACode_region ?_)
    refine AOps_q 6 _ rfl rfl rfl (QOp_move _ _ rfl rfl) ?_
    refine AOps_q 7 _ rfl rfl rfl (QOp_len_sl _ _ _ _ _ _ _ (intsD_length _) rfl rfl rfl rfl Tryd.underlying30 rfl) ?_
    refine AOps_q 8 _ rfl rfl rfl (QOp_move _ _ rfl rfl) ?_
    refine AOps_nil ?_
    refine ACode_block ?_
    refine ACode_loopW (fun k0 E H => ∃ (x1 : Int), E = [(0, .d (.sl none (intsD p0))), (1, iV p1), (7, iV (p0.length : Int)), (8, iV x1)] ∧ H = [] ∧ slices_Index_l0 p0 p1 k0 x1 = some os5) k _ _ (Weak_keep 0 hm [0, 1, 7, 8] [] _ _ rfl rfl rfl) ⟨_, rfl, rfl, h⟩ ?_
    clear h
    rintro k0 E H ⟨x1, rfl, rfl, h⟩
    cases k0 with
    | zero => cases (show (none : Option (Sum (Unit) (Int))) = some _ from h)
    | succ k0 =>
      rw [slices_Index_l0] at h
      refine ACode_seq (ACode_region ?_)
      refine AOps_q 9 _ rfl rfl rfl (QOp_lss _ _ _ _ _ _ _ rfl rfl rfl) ?_
      refine AOps_nil ?_
      refine ACode_seq ?_
      refine ACode_cond _ rfl (fun hb2 => ?_) (fun hb2 => ?_)
      · have h := iteT hb2 h
        refine ACode_skip ?_
        refine ACode_seq ?_
        refine ACode_block ?_
        refine ACode_seq (ACode_region ?_)
        refine AOps_q 10 _ rfl rfl rfl (QOp_move _ _ rfl rfl) ?_
        refine AOps_q 5 _ rfl rfl rfl (QOp_assign _ _ rfl rfl) ?_
        refine AOps_nil ?_
        refine ACode_seq (ACode_region ?_)
        refine AOps_q 11 _ rfl rfl rfl (QOp_move _ _ rfl rfl) ?_
        refine AOps_q 12 _ rfl rfl rfl (QOp_move _ _ rfl rfl) ?_
        refine AOps_q 13 _ rfl rfl rfl (QOp_move _ _ rfl rfl) ?_
        obtain ⟨hc3, h⟩ := guardO h
        refine AOps_q 14 _ rfl rfl rfl (QOp_indexAddr_sl _ _ _ _ _ _ _ _ rfl Tryd.underlying30 Tryd.sizeOf2 hc3.1 (by rw [intsD_length]; exact hc3.2) rfl rfl) ?_
        refine AOps_q 15 _ rfl rfl rfl (QOp_load_pv _ _ _ _ _ rfl Tryd.isAgg2 rfl (intsD_get _ _ 0 (by omega))) ?_
        refine AOps_q 16 _ rfl rfl rfl (QOp_eql _ _ _ _ _ _ _ rfl rfl rfl) ?_
        refine AOps_nil ?_
        refine ACode_cond _ rfl (fun hb4 => ?_) (fun hb4 => ?_)
        · have h := iteT hb4 h
          refine ACode_seq (ACode_region ?_)
          refine AOps_q 17 _ rfl rfl rfl (QOp_move _ _ rfl rfl) ?_
          refine AOps_q 4 _ rfl rfl rfl (QOp_assign _ _ rfl rfl) ?_
          refine AOps_nil ?_
          refine ACode_ret ?_
          cases h
          have h := hks5
          cases h
          exact ⟨_, _, fun r a w h => ⟨r, h⟩, _, _, [], _, (.cons (ResV_tmp _ _ rfl) .nil), rfl, rfl, rfl, rfl, rfl⟩
        · have h := iteF hb4 h
          refine ACode_skip ?_
          refine (ACode_region ?_)
          refine AOps_q 18 _ rfl rfl rfl (QOp_add _ _ _ _ _ _ _ rfl rfl rfl) ?_
          refine AOps_q 8 _ rfl rfl rfl (QOp_move _ _ rfl rfl) ?_
          refine AOps_nil ?_
          exact ⟨k0, _, _, Nat.lt_succ_self _, Weak_keep 0 hm [0, 1, 7, 8] [] _ _ rfl rfl rfl, _, rfl, rfl, h⟩
      · have h := iteF hb2 h
        refine ACode_exit ?_
        cases h
        exact ⟨_, rfl, Weak_keep 0 hm [] [] _ _ rfl rfl rfl⟩
  rintro E' H' ⟨s5, rfl, hw⟩
  refine ACode_weak hw ?_
  have h := hks5
  refine ACode_seq (ACode_region ?_)
  refine AOps_q 4 _ rfl rfl rfl (QOp_assign _ _ rfl rfl) ?_
  refine AOps_nil ?_
  refine ACode_ret ?_
  cases h
  exact ⟨_, _, fun r a w h => ⟨r, h⟩, _, _, [], _, (.cons (ResV_tmp _ _ rfl) .nil), rfl, rfl, rfl, rfl, rfl⟩

-- slices.Contains[[]int64,int64]
def slices_Contains (k : Nat) (p0 : List Int) (p1 : Int) : Option (Bool) :=
  (slices_Index k p0 p1).bind fun r1 => some (decide (0 ≤ r1))
set_option maxRecDepth 100000 in
theorem slices_Contains_ac (k : Nat) (p0 : List Int) (p1 : Int) (r : Bool) (h : slices_Contains k p0 p1 = some r) : AC Tryd.prog 64 [.d (.sl none (intsD p0)), iV p1] [] (fun res H' => res = [bV r] ∧ H' = []) := by
  refine AC_of_body true Tryd.func64 rfl Tryd.ntmps64 (rvs := [.tmp 4]) rfl rfl (fun G hG => ?_)
  have hm : G.H.length = 0 := by rw [hG]; rfl
  have hz : zeroG G.H = true := by rw [hG]; rfl
  unfold slices_Contains at h
  refine ACode_seq (ACode_region ?_)
  refine AOps_q 4 _ rfl rfl rfl (QOp_assign _ _ rfl rfl) ?_
  refine AOps_nil ?_
  refine ACode_seq (ACode_region ?_)
  refine AOps_q 5 _ rfl rfl rfl (QOp_move _ _ rfl rfl) ?_
  refine AOps_q 6 _ rfl rfl rfl (QOp_move _ _ rfl rfl) ?_
  obtain ⟨r1, hr1, h⟩ := bindO h
  refine AOps_call [] 7 _ _ _ _ _ _ _ _ _ _ rfl rfl rfl rfl rfl rfl rfl Tryd.call78 rfl (nodupB_sound _ rfl) rfl rfl rfl (slices_Index_ac k p0 p1 _ hr1) ?_
  rintro _ _ ⟨rfl, rfl⟩
  refine ⟨(fun _ h => nomatch h), (allc (trivial) (fun _ h => nomatch h)), AOps_as 7 (v' := iV r1) (H' := []) rfl rfl ?_⟩
  refine AOps_q 8 _ rfl rfl rfl (QOp_geq _ _ _ _ _ _ _ rfl rfl rfl) ?_
  refine AOps_q 4 _ rfl rfl rfl (QOp_assign _ _ rfl rfl) ?_
  refine AOps_nil ?_
  refine ACode_ret ?_
  cases h
  exact ⟨_, _, fun r a w h => ⟨r, h⟩, _, _, [], _, (.cons (ResV_tmp _ _ rfl) .nil), rfl, rfl, rfl, rfl, rfl⟩

-- (loop.example/g01362/impl.position).isPosition$1
def impl_position_isPosition_c1 (k : Nat) (p0 : List Int) (p1 : Int) : Option (Bool) :=
  (slices_Contains k p0 p1).bind fun r1 => some (!r1)
set_option maxRecDepth 100000 in
theorem impl_position_isPosition_c1_ac (k : Nat) (p0 : List Int) (p1 : Int) (r : Bool) (h : impl_position_isPosition_c1 k p0 p1 = some r) : AC Tryd.prog 63 [.d (.sl none (intsD p0)), .d (.pv ([iD p1]) 0)] [] (fun res H' => res = [bV r] ∧ H' = []) := by
  refine AC_of_body true Tryd.func63 rfl Tryd.ntmps63 (rvs := [.tmp 3]) rfl rfl (fun G hG => ?_)
  have hm : G.H.length = 0 := by rw [hG]; rfl
  have hz : zeroG G.H = true := by rw [hG]; rfl
  unfold impl_position_isPosition_c1 at h
  refine ACode_seq (ACode_region ?_)
  refine AOps_q 3 _ rfl rfl rfl (QOp_assign _ _ rfl rfl) ?_
  refine AOps_nil ?_
  refine ACode_seq (ACode_region ?_)
  refine AOps_q 4 _ rfl rfl rfl (QOp_move _ _ rfl rfl) ?_
  refine AOps_q 5 _ rfl rfl rfl (QOp_load_pv _ _ _ _ _ rfl Tryd.isAgg2 rfl rfl) ?_
  obtain ⟨r1, hr1, h⟩ := bindO h
  refine AOps_call [] 6 _ _ _ _ _ _ _ _ _ _ rfl rfl rfl rfl rfl rfl rfl Tryd.call64 rfl (nodupB_sound _ rfl) rfl rfl rfl (slices_Contains_ac k p0 p1 _ hr1) ?_
  rintro _ _ ⟨rfl, rfl⟩
  refine ⟨(fun _ h => nomatch h), (allc (trivial) (fun _ h => nomatch h)), AOps_as 6 (v' := bV r1) (H' := []) rfl rfl ?_⟩
  refine AOps_q 7 _ rfl rfl rfl (QOp_not _ _ _ rfl rfl) ?_
  refine AOps_q 3 _ rfl rfl rfl (QOp_assign _ _ rfl rfl) ?_
  refine AOps_nil ?_
  refine ACode_ret ?_
  cases h
  exact ⟨_, _, fun r a w h => ⟨r, h⟩, _, _, [], _, (.cons (ResV_tmp _ _ rfl) .nil), rfl, rfl, rfl, rfl, rfl⟩

-- (loop.example/g01362/impl.position).isPosition
def impl_position_isPosition_l0 (k : Nat) (p0 : Pos) (r10 : List (List Int)) : Nat → Int → Option (Sum (Unit) (Bool))
  | 0, _ => none
  | k0 + 1, x12 => (if decide (x12 < (impl_size p0.l)) then (slices_ContainsFunc_R k r10 (fun a0 => impl_position_isPosition_c1 k a0 x12)).bind fun r14 => (if !r14 then some (.inr true) else impl_position_isPosition_l0 k p0 r10 k0 (w64 (x12 + 1))) else some (.inl ()))
def impl_position_isPosition (k : Nat) (p0 : Pos) : Option (Bool) :=
  (((impl_position_mover k p0).bind fun r1 => (if !(impl_in r1 0 1) then some true else (impl_position_mover k p0).bind fun r4 => (impl_position_triangles k p0 r4).bind fun r5 => some (decide (0 < (r5.length : Int)))) : Option (Bool)).bind fun s6 => (if s6 then some (.inr false) else some (.inl ())) : Option (Sum (Unit) (Bool))).bind fun os8 => (match os8 with | .inl s8 => (impl_position_mover k p0).bind fun r9 => (impl_position_triangles k p0 (w64 (1 - r9))).bind fun r10 => (impl_position_isPosition_l0 k p0 r10 k 0 : Option (Sum (Unit) (Bool))).bind fun os16 => (match os16 with | .inl s16 => some (decide ((r10.length : Int) = 0)) | .inr rr => some rr) | .inr rr => some rr)
set_option maxRecDepth 100000 in
theorem impl_position_isPosition_ac (k : Nat) (p0 : Pos) (r : Bool) (h : impl_position_isPosition k p0 = some r) : AC Tryd.prog 42 [.d (.agg (posD p0))] [] (fun res H' => res = [bV r] ∧ H' = []) := by
  refine AC_of_body true Tryd.func42 rfl Tryd.ntmps42 (rvs := [.tmp 2]) rfl rfl (fun G hG => ?_)
  have hm : G.H.length = 0 := by rw [hG]; rfl
  have hz : zeroG G.H = true := by rw [hG]; rfl
  unfold impl_position_isPosition at h
  refine ACode_seq (ACode_region ?_)
  refine AOps_boxI 1 _ _ (.agg (posD p0)) (posD p0) rfl (posD_one _) rfl rfl rfl rfl rfl ?_
  refine AOps_q 2 _ rfl rfl rfl (QOp_assign _ _ rfl rfl) ?_
  refine AOps_nil ?_
  obtain ⟨os8, hss8, hks8⟩ := bindO h
  clear h
  refine ACode_seqJ (fun E' H' => ∃ s8 : Unit, os8 = .inl s8 ∧ Weak 36 G E' H' [(1, .d (.pv (posD p0) 0))] []) ?_ ?_
  · have h := hss8
    clear hss8
    obtain ⟨s6, hss6, hks6⟩ := bindO h
    clear h
    refine ACode_seqJ (fun E' H' => Weak 36 G E' H' [(1, .d (.pv (posD p0) 0)), (16, bV s6)] []) ?_ ?_
    · have h := hss6
      clear hss6
      refine ACode_any mixed ?_
      refine AAny_q 0 5 _ rfl (by kernel_rfl) rfl rfl rfl (QOp_loadN_pv _ _ _ _ _ _ rfl Tryd.isAgg48 Tryd.sizeOf48 rfl (posD_all _) (posD_length _)) ?_
      obtain ⟨r1, hr1, h⟩ := bindO h
      refine AAny_call 1 6 _ _ _ _ _ _ _ _ _ rfl (by kernel_rfl) rfl rfl rfl rfl rfl rfl rfl Tryd.call59 rfl rfl rfl (impl_position_mover_ac k p0 _ hr1) ?_
      refine AAny_call 2 7 _ _ _ _ _ _ _ _ _ rfl (by kernel_rfl) rfl rfl rfl rfl rfl rfl rfl Tryd.call50 rfl rfl rfl (impl_in_ac r1 0 1) ?_
      refine AAny_q 3 8 _ rfl (by kernel_rfl) rfl rfl rfl (QOp_not _ _ _ rfl rfl) ?_
      refine AAny_q 4 9 _ rfl (by kernel_rfl) rfl rfl rfl (QOp_move _ _ rfl rfl) ?_
      refine AAny_case 9 _ rfl (fun hb3 => ?_) (fun hb3 => ?_)
      · have h := iteT hb3 h
        refine AAny_skip 5 10 rfl (by kernel_rfl) rfl rfl rfl ?_
        refine AAny_skip 6 11 rfl (by kernel_rfl) rfl rfl rfl ?_
        refine AAny_skip 7 12 rfl (by kernel_rfl) rfl rfl rfl ?_
        refine AAny_skip 8 13 rfl (by kernel_rfl) rfl rfl rfl ?_
        refine AAny_skip 9 14 rfl (by kernel_rfl) rfl rfl rfl ?_
        refine AAny_skip 10 15 rfl (by kernel_rfl) rfl rfl rfl ?_
        refine AAny_q 11 16 _ rfl (by kernel_rfl) rfl rfl rfl (QOp_pick_t _ _ _ _ rfl rfl rfl) ?_
        refine AAny_done (by kernel_rfl) ?_
        cases h
        exact Weak_keep 0 hm [1, 16] [] _ _ rfl rfl rfl
      · have h := iteF hb3 h
        refine AAny_q 5 10 _ rfl (by kernel_rfl) rfl rfl rfl (QOp_loadN_pv _ _ _ _ _ _ rfl Tryd.isAgg48 Tryd.sizeOf48 rfl (posD_all _) (posD_length _)) ?_
        refine AAny_q 6 11 _ rfl (by kernel_rfl) rfl rfl rfl (QOp_loadN_pv _ _ _ _ _ _ rfl Tryd.isAgg48 Tryd.sizeOf48 rfl (posD_all _) (posD_length _)) ?_
        obtain ⟨r4, hr4, h⟩ := bindO h
        refine AAny_call 7 12 _ _ _ _ _ _ _ _ _ rfl (by kernel_rfl) rfl rfl rfl rfl rfl rfl rfl Tryd.call59 rfl rfl rfl (impl_position_mover_ac k p0 _ hr4) ?_
        refine AAny_all [8] (by kernel_rfl) rfl (allc ?_ (fun _ h => nomatch h))
        obtain ⟨r5, hr5, h⟩ := bindO h
        refine AStep_callN 8 13 _ _ _ _ _ _ _ _ _ rfl rfl rfl rfl rfl rfl rfl rfl Tryd.call60 rfl rfl rfl (impl_position_triangles_ac k p0 r4 _ hr5) ?_
        rintro _ _ ⟨rfl, rfl⟩
        refine ⟨(allc (fun _ _ => trivial) (fun _ h => nomatch h)), (allc (trivial) (fun _ h => nomatch h)), AAny_as 13 (v' := .vec 0 0) (H' := [.vec 0 (rowsD r5)]) rfl rfl ?_⟩
        refine AAny_q 9 14 _ rfl (by kernel_rfl) rfl rfl rfl (QOp_len_vec _ _ _ _ _ _ _ _ (rowsD_length _) rfl rfl rfl rfl Tryd.underlying82 rfl rfl) ?_
        refine AAny_q 10 15 _ rfl (by kernel_rfl) rfl rfl rfl (QOp_gtr _ _ _ _ _ _ _ rfl rfl rfl) ?_
        refine AAny_q 11 16 _ rfl (by kernel_rfl) rfl rfl rfl (QOp_pick_f _ _ _ _ rfl rfl rfl) ?_
        refine AAny_done (by kernel_rfl) ?_
        cases h
        exact Weak_keep 0 hm [1, 16] [] _ _ rfl rfl rfl
    intro E' H' hw
    refine ACode_weak hw ?_
    have h := hks6
    refine ACode_cond _ rfl (fun hb7 => ?_) (fun hb7 => ?_)
    · have h := iteT hb7 h
      refine ACode_seq (ACode_region ?_)
      refine AOps_q 2 _ rfl rfl rfl (QOp_assign _ _ rfl rfl) ?_
      refine AOps_nil ?_
      refine ACode_ret ?_
      cases h
      have h := hks8
      cases h
      exact ⟨_, _, fun r a w h => ⟨r, h⟩, _, _, [], _, (.cons (ResV_tmp _ _ rfl) .nil), rfl, rfl, rfl, rfl, rfl⟩
    · have h := iteF hb7 h
      refine ACode_skip ?_
      cases h
      exact ⟨_, rfl, Weak_keep 0 hm [1] [] _ _ rfl rfl rfl⟩
  rintro E' H' ⟨s8, rfl, hw⟩
  refine ACode_weak hw ?_
  have h := hks8
  obtain ⟨r9, hr9, h⟩ := bindO h
  obtain ⟨r10, hr10, h⟩ := bindO h
  refine ACode_seqJ (fun E' H' => Weak 36 G E' H' [(1, .d (.pv (posD p0) 0)), (3, .vec 0 0)] [.vec 0 (rowsD r10)]) ?_ ?_
  · refine ACode_any mixed ?_
    refine AAny_q 0 17 _ rfl (by kernel_rfl) rfl rfl rfl (QOp_loadN_pv _ _ _ _ _ _ rfl Tryd.isAgg48 Tryd.sizeOf48 rfl (posD_all _) (posD_length _)) ?_
    refine AAny_q 1 18 _ rfl (by kernel_rfl) rfl rfl rfl (QOp_loadN_pv _ _ _ _ _ _ rfl Tryd.isAgg48 Tryd.sizeOf48 rfl (posD_all _) (posD_length _)) ?_
    refine AAny_call 2 19 _ _ _ _ _ _ _ _ _ rfl (by kernel_rfl) rfl rfl rfl rfl rfl rfl rfl Tryd.call59 rfl rfl rfl (impl_position_mover_ac k p0 _ hr9) ?_
    refine AAny_q 3 20 _ rfl (by kernel_rfl) rfl rfl rfl (QOp_sub _ _ _ _ _ _ _ rfl rfl rfl) ?_
    refine AAny_all [4] (by kernel_rfl) rfl (allc ?_ (fun _ h => nomatch h))
    · refine AStep_callN 4 21 _ _ _ _ _ _ _ _ _ rfl rfl rfl rfl rfl rfl rfl rfl Tryd.call60 rfl rfl rfl (impl_position_triangles_ac k p0 (w64 (1 - r9)) _ hr10) ?_
      rintro _ _ ⟨rfl, rfl⟩
      refine ⟨(allc (fun _ _ => trivial) (fun _ h => nomatch h)), (allc (trivial) (fun _ h => nomatch h)), AAny_as 21 (v' := .vec 0 0) (H' := [.vec 0 (rowsD r10)]) rfl rfl ?_⟩
      refine AAny_q 5 3 _ rfl (by kernel_rfl) rfl rfl rfl (QOp_assign _ _ rfl rfl) ?_
      refine AAny_done (by kernel_rfl) ?_
      exact Weak_keep 0 hm [1, 3] [0] _ _ rfl rfl rfl
  intro E' H' hw
  refine ACode_weak hw ?_
  obtain ⟨os16, hss16, hks16⟩ := bindO h
  clear h
  refine ACode_seqJ (fun E' H' => ∃ s16 : Unit, os16 = .inl s16 ∧ Weak 36 G E' H' [(3, .vec 0 0)] [.vec 0 (rowsD r10)]) ?_ ?_
  · have h := hss16
    clear hss16
    refine ACode_seq (ACode_region ?_)
    refine AOps_q 22 _ rfl rfl rfl (QOp_fieldAddr_pv _ _ _ _ _ 1 _ _ rfl Tryd.underlying48 rfl _ Tryd.sizeOf30 rfl rfl) ?_
    refine AOps_q 23 _ rfl rfl rfl (QOp_load_pv _ _ _ _ _ rfl Tryd.isAgg30 rfl rfl) ?_
    refine AOps_call [] 24 _ _ _ _ _ _ _ _ _ _ rfl rfl rfl rfl rfl rfl rfl Tryd.call61 rfl (nodupB_sound _ rfl) rfl rfl rfl (impl_size_ac p0.l) ?_
    rintro _ _ ⟨rfl, rfl⟩
    refine ⟨(fun _ h => nomatch h), (allc (trivial) (fun _ h => nomatch h)), AOps_as 24 (v' := iV (impl_size p0.l)) (H' := [.vec 0 (rowsD r10)]) rfl rfl ?_⟩
    refine AOps_q 25 _ rfl rfl rfl (QOp_move _ _ rfl rfl) ?_
    refine AOps_nil ?_
    refine ACode_block ?_
    refine ACode_loopW (fun k0 E H => ∃ (x12 : Int), E = [(3, .vec 0 0), (24, iV (impl_size p0.l)), (25, iV x12)] ∧ H = [.vec 0 (rowsD r10)] ∧ impl_position_isPosition_l0 k p0 r10 k0 x12 = some os16) k _ _ (Weak_keep 0 hm [3, 24, 25] [0] _ _ rfl rfl rfl) ⟨_, rfl, rfl, h⟩ ?_
    clear h
    rintro k0 E H ⟨x12, rfl, rfl, h⟩
    cases k0 with
    | zero => cases (show (none : Option (Sum (Unit) (Bool))) = some _ from h)
    | succ k0 =>
      rw [impl_position_isPosition_l0] at h
      refine ACode_seq (ACode_region ?_)
      refine AOps_q 26 _ rfl rfl rfl (QOp_lss _ _ _ _ _ _ _ rfl rfl rfl) ?_
      refine AOps_nil ?_
      refine ACode_seq ?_
      refine ACode_cond _ rfl (fun hb13 => ?_) (fun hb13 => ?_)
      · have h := iteT hb13 h
        refine ACode_skip ?_
        refine ACode_seq ?_
        refine ACode_block ?_
        refine ACode_seq (ACode_region ?_)
        refine AOps_q 27 _ rfl rfl rfl (QOp_move _ _ rfl rfl) ?_
        refine AOps_alloc 4 _ _ ([iD 0]) (zero_of Tryd.typeInfo2 rfl) (by rfl) rfl rfl rfl rfl ?_
        refine AOps_store1 _ _ _ _ _ _ _ _ rfl rfl rfl rfl rfl rfl rfl Tryd.sizeOf2 (by decide) rfl ?_
        refine AOps_nil ?_
        refine ACode_seq (ACode_region ?_)
        refine AOps_q 28 _ rfl rfl rfl (QOp_move _ _ rfl rfl) ?_
        refine AOps_q 29 _ rfl rfl rfl (QOp_makeFunc _ _ _ rfl rfl) ?_
        obtain ⟨r14, hr14, h⟩ := bindO h
        refine AOps_callL [] 30 _ _ _ _ _ _ _ _ _ _ rfl rfl rfl rfl rfl rfl rfl Tryd.call62 rfl (nodupB_sound _ rfl) rfl rfl rfl (slices_ContainsFunc_R_ac k r10 (fun a0 => impl_position_isPosition_c1 k a0 x12) 63 ([.pv ([iD x12]) 0]) Tryd.call63 (fun a0 r h => impl_position_isPosition_c1_ac k a0 x12 r h) _ hr14) ?_
        rintro _ _ ⟨rfl, rfl⟩
        refine ⟨(fun _ h => nomatch h), (allc (flat_s _) (fun _ h => nomatch h)), AOps_as 30 (v' := bV r14) (H' := [.vec 0 (rowsD r10), .box [iD x12]]) rfl rfl ?_⟩
        refine AOps_q 31 _ rfl rfl rfl (QOp_not _ _ _ rfl rfl) ?_
        refine AOps_nil ?_
        refine ACode_cond _ rfl (fun hb15 => ?_) (fun hb15 => ?_)
        · have h := iteT hb15 h
          refine ACode_seq (ACode_region ?_)
          refine AOps_q 2 _ rfl rfl rfl (QOp_assign _ _ rfl rfl) ?_
          refine AOps_nil ?_
          refine ACode_ret ?_
          cases h
          have h := hks16
          cases h
          exact ⟨_, _, fun r a w h => ⟨r, h⟩, _, _, [], _, (.cons (ResV_tmp _ _ rfl) .nil), rfl, rfl, rfl, rfl, rfl⟩
        · have h := iteF hb15 h
          refine ACode_skip ?_
          refine (ACode_region ?_)
          refine AOps_q 32 _ rfl rfl rfl (QOp_add _ _ _ _ _ _ _ rfl rfl rfl) ?_
          refine AOps_q 25 _ rfl rfl rfl (QOp_move _ _ rfl rfl) ?_
          refine AOps_nil ?_
          exact ⟨k0, _, _, Nat.lt_succ_self _, Weak_keep 0 hm [3, 24, 25] [0] _ _ rfl rfl rfl, _, rfl, rfl, h⟩
      · have h := iteF hb13 h
        refine ACode_exit ?_
        cases h
        exact ⟨_, rfl, Weak_keep 0 hm [3] [0] _ _ rfl rfl rfl⟩
  rintro E' H' ⟨s16, rfl, hw⟩
  refine ACode_weak hw ?_
  have h := hks16
  refine ACode_seq (ACode_region ?_)
  refine AOps_q 33 _ rfl rfl rfl (QOp_move _ _ rfl rfl) ?_
  refine AOps_q 34 _ rfl rfl rfl (QOp_len_vec _ _ _ _ _ _ _ _ (rowsD_length _) rfl rfl rfl rfl Tryd.underlying82 rfl rfl) ?_
  refine AOps_q 35 _ rfl rfl rfl (QOp_eql _ _ _ _ _ _ _ rfl rfl rfl) ?_
  refine AOps_q 2 _ rfl rfl rfl (QOp_assign _ _ rfl rfl) ?_
  refine AOps_nil ?_
  refine ACode_ret ?_
  cases h
  exact ⟨_, _, fun r a w h => ⟨r, h⟩, _, _, [], _, (.cons (ResV_tmp _ _ rfl) .nil), rfl, rfl, rfl, rfl, rfl⟩

-- loop.example/g01362/impl.IsPosition
def impl_IsPosition (k : Nat) (p0 : Int) (p1 : List Int) : Option (Bool) :=
  ((impl_position_isShape k (⟨p0, p1⟩ : Pos)).bind fun r1 => (if r1 then (impl_position_isPosition k (⟨p0, p1⟩ : Pos)).bind fun r3 => some r3 else some false) : Option (Bool)).bind fun s4 => some s4
set_option maxRecDepth 100000 in
theorem impl_IsPosition_ac (k : Nat) (p0 : Int) (p1 : List Int) (r : Bool) (h : impl_IsPosition k p0 p1 = some r) : AC Tryd.prog 32 [iV p0, .d (.sl none (intsD p1))] [] (fun res H' => res = [bV r] ∧ H' = []) := by
  refine AC_of_body true Tryd.func32 rfl Tryd.ntmps32 (rvs := [.tmp 4]) rfl rfl (fun G hG => ?_)
  have hm : G.H.length = 0 := by rw [hG]; rfl
  have hz : zeroG G.H = true := by rw [hG]; rfl
  unfold impl_IsPosition at h
  refine ACode_seq (ACode_region ?_)
  refine AOps_q 4 _ rfl rfl rfl (QOp_assign _ _ rfl rfl) ?_
  refine AOps_nil ?_
  refine ACode_seq (ACode_region ?_)
  refine AOps_q 6 _ rfl rfl rfl (QOp_move _ _ rfl rfl) ?_
  refine AOps_q 7 _ rfl rfl rfl (QOp_move _ _ rfl rfl) ?_
  refine AOps_q 8 _ rfl rfl rfl (QOp_build _ _ [_, _] [0, 1] [iD p0, .sl none (intsD p1)] _ [iD 0, .sl (some true) []] (posD (⟨p0, p1⟩ : Pos)) [(0, 1), (1, 1)] rfl rfl Tryd.underlying48 (zero_of Tryd.typeInfo48 rfl) (fun w => by simp [Tryd.sizeOf2, Tryd.sizeOf30]) rfl (by rfl) (by rfl) (allc (ok1 rfl) (allc (ok1 rfl) (fun _ h => nomatch h)))) ?_
  refine AOps_alloc 5 _ _ ([iD 0, .sl (some true) []]) (zero_of Tryd.typeInfo48 rfl) (by rfl) rfl rfl rfl rfl ?_
  refine AOps_store _ _ _ _ _ _ (posD _) _ _ rfl rfl rfl rfl rfl rfl rfl (posD_one _) (by rw [posD_length]; exact Tryd.sizeOf48) (by show (2 : Nat) ≤ 2; decide) rfl ?_
  refine AOps_nil ?_
  obtain ⟨s4, hss4, hks4⟩ := bindO h
  clear h
  refine ACode_seqJ (fun E' H' => Weak 15 G E' H' [(4, bV s4)] []) ?_ ?_
  · have h := hss4
    clear hss4
    refine (ACode_region ?_)
    refine AOps_q 9 _ rfl rfl rfl (QOp_loadN_ptr _ _ _ _ _ _ _ rfl Tryd.isAgg48 Tryd.sizeOf48 rfl rfl (posD_all _) (posD_length _)) ?_
    obtain ⟨r1, hr1, h⟩ := bindO h
    refine AOps_call [] 10 _ _ _ _ _ _ _ _ _ _ rfl rfl rfl rfl rfl rfl rfl Tryd.call41 rfl (nodupB_sound _ rfl) rfl rfl rfl (impl_position_isShape_ac k (⟨p0, p1⟩ : Pos) _ hr1) ?_
    rintro _ _ ⟨rfl, rfl⟩
    refine ⟨(fun _ h => nomatch h), (allc (trivial) (fun _ h => nomatch h)), AOps_as 10 (v' := bV r1) (H' := [.box (posD (⟨p0, p1⟩ : Pos))]) rfl rfl ?_⟩
    refine AOps_q 11 _ rfl rfl rfl (QOp_move _ _ rfl rfl) ?_
    refine AOps_case 11 _ rfl (fun hb2 => ?_) (fun hb2 => ?_)
    · have h := iteT hb2 h
      refine AOps_q 12 _ rfl rfl rfl (QOp_loadN_ptr _ _ _ _ _ _ _ rfl Tryd.isAgg48 Tryd.sizeOf48 rfl rfl (posD_all _) (posD_length _)) ?_
      obtain ⟨r3, hr3, h⟩ := bindO h
      refine AOps_call [] 13 _ _ _ _ _ _ _ _ _ _ rfl rfl rfl rfl rfl rfl rfl Tryd.call42 rfl (nodupB_sound _ rfl) rfl rfl rfl (impl_position_isPosition_ac k (⟨p0, p1⟩ : Pos) _ hr3) ?_
      rintro _ _ ⟨rfl, rfl⟩
      refine ⟨(fun _ h => nomatch h), (allc (trivial) (fun _ h => nomatch h)), AOps_as 13 (v' := bV r3) (H' := [.box (posD (⟨p0, p1⟩ : Pos))]) rfl rfl ?_⟩
      refine AOps_q 14 _ rfl rfl rfl (QOp_pick_t _ _ _ _ rfl rfl rfl) ?_
      refine AOps_q 4 _ rfl rfl rfl (QOp_assign _ _ rfl rfl) ?_
      refine AOps_nil ?_
      cases h
      exact Weak_keep 0 hm [4] [] _ _ rfl rfl rfl
    · have h := iteF hb2 h
      refine AOps_skip 12 rfl rfl rfl ?_
      refine AOps_skip 13 rfl rfl rfl ?_
      refine AOps_q 14 _ rfl rfl rfl (QOp_pick_f _ _ _ _ rfl rfl rfl) ?_
      refine AOps_q 4 _ rfl rfl rfl (QOp_assign _ _ rfl rfl) ?_
      refine AOps_nil ?_
      cases h
      exact Weak_keep 0 hm [4] [] _ _ rfl rfl rfl
  intro E' H' hw
  refine ACode_weak hw ?_
  have h := hks4
  refine ACode_ret ?_
  cases h
  exact ⟨_, _, fun r a w h => ⟨r, h⟩, _, _, [], _, (.cons (ResV_tmp _ _ rfl) .nil), rfl, rfl, rfl, rfl, rfl⟩

end Go.Proofs.YtmmiokljmfkoiaaDoor
