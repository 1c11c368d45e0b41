/- Plain functions of the program and that the program computes them: printed by the own tool gen.py. No conditions. -/
import Derived.Test.YtfnbhfobgimnjaaGreatGen30b
set_option linter.unusedVariables false
set_option linter.unusedSimpArgs false
namespace Go.Proofs.YtfnbhfobgimnjaaGreat
open Go Go.RowKit Ab

-- loop.example/g01362/spec.l06Go
def spec_l06Go_l1 (p1 : List Int) (x5 : Int) (x6 : Sea) : Nat → Bool → Int → Option (Bool)
 | 0, _, _ => none
 | k1 + 1, x18, x19 => (letO (if decide (x19 < (p1.length : Int)) then x18 else false) fun (s21 : Bool) => (if s21 then some (.inl ()) else (some x18).bind fun rr => some (.inr rr)) : Option (Sum (Unit) (Bool))).bind fun os23 => (match os23 with | .inl s23 => (spec_l01At x6.x x19 (p1.length : Int)).bind fun r24 => (if 0 ≤ x19 ∧ x19 < (p1.length : Int) then (spec_l01At x6.y (p1.getD x19.toNat 0) x5).bind fun r26 => spec_l06Go_l1 p1 x5 x6 k1 (decide (r24 = r26)) (w64 (x19 + 1)) else none) | .inr rr => some rr)
def spec_l06Go_l0 (k : Nat) (self : Sea → (List Int) → Int → Option (Sea)) (p1 : List Int) (p2 : Int) : Nat → Int → Sea → Option (Sea)
 | 0, _, _ => none
 | k0 + 1, x5, x6 => (letO (if decide (x5 < x6.x.p) then decide (x6.count < x6.most) else false) fun (s8 : Bool) => (if s8 then some (.inl ()) else some (.inr x6)) : Option (Sum (Unit) (Sea))).bind fun os10 => (match os10 with | .inl s10 => ((((if 0 ≤ IntKind.u64.wrap x5 then (if decide (bAnd .i64 (bShr .i64 p2 (IntKind.u64.wrap x5)) 1 = 1) then some true else (if 0 ≤ (p1.length : Int) ∧ (p1.length : Int) < (x6.one.length : Int) then (if 0 ≤ x5 ∧ x5 < (x6.two.length : Int) then some (!decide ((x6.one.getD (p1.length : Int).toNat 0) = (x6.two.getD x5.toNat 0))) else none) else none)) else none) : Option (Bool)).bind fun s15 => (if s15 then (some x6).bind fun rr => some (.inr rr) else some (.inl ())) : Option (Sum (Unit) (Sea))).bind fun os17 => (match os17 with | .inl s17 => (spec_l06Go_l1 p1 x5 x6 k true 0 : Option (Bool)).bind fun s27 => (if s27 then (spec_l01Own p1).bind fun r29 => (if r29.length + ([x5]).length ≤ 1099511627776 then (if 0 ≤ IntKind.u64.wrap x5 then (self x6 (r29 ++ ([x5])) (bOr .i64 p2 (bShl .i64 1 (IntKind.u64.wrap x5)))).bind fun r32 => some r32 else none) else none) else some x6) | .inr rr => some rr) : Option (Sea)).bind fun s33 => spec_l06Go_l0 k self p1 p2 k0 (w64 (x5 + 1)) s33 | .inr rr => some rr)
def spec_l06Go_body (self : Sea → (List Int) → Int → Option (Sea)) (k : Nat) (p0 : Sea) (p1 : List Int) (p2 : Int) : Option (Sea) :=
 (if decide ((p1.length : Int) = p0.x.p) then ((if decide (p0.count = 0) then (spec_l01Own p1).bind fun r3 => some (⟨p0.x, p0.y, p0.one, p0.two, p0.most, p0.count, r3⟩ : Sea) else some p0) : Option (Sea)).bind fun s4 => some (⟨s4.x, s4.y, s4.one, s4.two, s4.most, w64 (s4.count + 1), s4.first⟩ : Sea) else spec_l06Go_l0 k self p1 p2 k 0 p0)
def spec_l06Go : Nat → Sea → (List Int) → Int → Option (Sea)
 | 0, _, _, _ => none
 | k + 1, p0, p1, p2 => spec_l06Go_body (spec_l06Go k) k p0 p1 p2
set_option maxRecDepth 100000 in
theorem spec_l06Go_ac (k : Nat) (p0 : Sea) (p1 : List Int) (p2 : Int) (r : Sea) (h : spec_l06Go k p0 p1 p2 = some r) : AC Tryz.prog 84 [.ptr 0 0, .d (.sl none (intsD p1)), iV p2] [.box (seaD p0)] (fun res H' => res = [] ∧ H' = [.box (seaD r)]) := by
 induction k generalizing p0 p1 p2 r with
 | zero => simp [spec_l06Go] at h
 | succ k ih =>
  rw [spec_l06Go] at h
  obtain ⟨self, hself, hk⟩ : ∃ self : Sea → (List Int) → Int → Option (Sea), (∀ (p0 : Sea) (p1 : List Int) (p2 : Int) (r : Sea), self p0 p1 p2 = some r → AC Tryz.prog 84 [.ptr 0 0, .d (.sl none (intsD p1)), iV p2] [.box (seaD p0)] (fun res H' => res = [] ∧ H' = [.box (seaD r)])) ∧ spec_l06Go k = self := ⟨spec_l06Go k, fun p0 p1 p2 r h => ih p0 p1 p2 r h, rfl⟩
  rw [hk] at h
  clear ih hk
  refine AC_of_body true Tryz.func84 rfl Tryz.ntmps84 (rvs := []) rfl rfl (fun G hG => ?_)
  have hm : G.H.length = 1 := by rw [hG]; rfl
  have hz : zeroG G.H = true := by rw [hG]; rfl
  unfold spec_l06Go_body at h
  refine kR ?_
  refine kM 1 rfl ?_
  refine AOps_q 11 _ rfl rfl rfl (QOp_len_sl _ _ _ _ _ _ _ (intsD_length _) rfl rfl rfl rfl Tryz.underlying29 rfl) ?_
  refine kN 1 rfl ?_
  refine ACode_seq ?_
  refine kR ?_
  refine kM 2 rfl ?_
  refine AOps_q 14 _ rfl rfl rfl (QOp_nilCheck_ptr _ _ _ _ rfl rfl rfl rfl) ?_
  refine AOps_q 15 _ rfl rfl rfl (QOp_fieldAddr_ptr _ _ _ _ _ _ 0 _ _ rfl Tryz.underlying62 rfl _ Tryz.sizeOf26 rfl rfl rfl rfl) ?_
  refine AOps_q 16 _ rfl rfl rfl (QOp_fieldAddr_ptr _ _ _ _ _ _ 0 _ _ rfl Tryz.underlying26 rfl _ Tryz.sizeOf2 rfl rfl rfl rfl) ?_
  refine AOps_q 17 _ rfl rfl rfl (QOp_load_ptr _ _ _ _ _ _ rfl Tryz.isAgg2 rfl rfl rfl) ?_
  refine AOps_q 18 _ rfl rfl rfl (QOp_eql _ _ _ _ _ _ _ rfl rfl rfl) ?_
  refine AOps_nil ?_
  refine kI h rfl (fun h _ => ?_) (fun h _ => ?_)
  ·refine kB (fun s4 => [(0, .ptr 0 0)]) (fun s4 => [.box (seaD s4)]) h (fun s4 h => ?_) (fun s4 h => ?_)
   ·refine kR ?_
    refine kM 1 rfl ?_
    refine AOps_q 20 _ rfl rfl rfl (QOp_nilCheck_ptr _ _ _ _ rfl rfl rfl rfl) ?_
    refine AOps_q 21 _ rfl rfl rfl (QOp_fieldAddr_ptr _ _ _ _ _ _ 279 _ _ rfl Tryz.underlying62 rfl _ Tryz.sizeOf2 rfl rfl rfl rfl) ?_
    refine AOps_q 22 _ rfl rfl rfl (QOp_load_ptr _ _ _ _ _ _ rfl Tryz.isAgg2 rfl rfl (seaD_c _)) ?_
    refine AOps_q 23 _ rfl rfl rfl (QOp_eql _ _ _ _ _ _ _ rfl rfl rfl) ?_
    refine AOps_nil ?_
    refine kI h rfl (fun h _ => ?_) (fun h _ => ?_)
    ·refine (ACode_region ?_)
     refine kM 2 rfl ?_
     obtain ⟨r3, hr3, h⟩ := bindO h
     refine kC [] 26 (.vec 1 0) [.box (seaD p0), .vec 0 (intsD r3)] rfl Tryz.call86 rfl rfl (spec_l01Own_ac p1 _ hr3) rfl ?_
     refine AOps_q 27 _ rfl rfl rfl (QOp_nilCheck_ptr _ _ _ _ rfl rfl rfl rfl) ?_
     refine AOps_q 28 _ rfl rfl rfl (QOp_fieldAddr_ptr _ _ _ _ _ _ 280 _ _ rfl Tryz.underlying62 rfl _ Tryz.sizeOf29 rfl rfl rfl rfl) ?_
     refine AOps_freeze 26 1 0 _ rfl rfl ?_
     refine AOps_store1 _ _ _ _ _ _ (seaD (⟨p0.x, p0.y, p0.one, p0.two, p0.most, p0.count, r3⟩ : Sea)) _ rfl rfl rfl rfl rfl rfl rfl Tryz.sizeOf29 (by rw [seaD_length]; decide) (seaD_setf _ _) ?_
     refine AOps_nil ?_
     cases h
     exact Weak_keep 1 hm [0] [] _ _ rfl rfl rfl
    refine ACode_skip ?_
    cases h
    exact Weak_keep 1 hm [0] [] _ _ rfl rfl rfl
   refine kR ?_
   refine kM 1 rfl ?_
   refine AOps_q 30 _ rfl rfl rfl (QOp_nilCheck_ptr _ _ _ _ rfl rfl rfl rfl) ?_
   refine AOps_q 31 _ rfl rfl rfl (QOp_fieldAddr_ptr _ _ _ _ _ _ 279 _ _ rfl Tryz.underlying62 rfl _ Tryz.sizeOf2 rfl rfl rfl rfl) ?_
   refine AOps_q 32 _ rfl rfl rfl (QOp_load_ptr _ _ _ _ _ _ rfl Tryz.isAgg2 rfl rfl (seaD_c _)) ?_
   refine AOps_q 33 _ rfl rfl rfl (QOp_add _ _ _ _ _ _ _ rfl rfl rfl) ?_
   refine AOps_q 34 _ rfl rfl rfl (QOp_nilCheck_ptr _ _ _ _ rfl rfl rfl rfl) ?_
   refine AOps_q 35 _ rfl rfl rfl (QOp_fieldAddr_ptr _ _ _ _ _ _ 279 _ _ rfl Tryz.underlying62 rfl _ Tryz.sizeOf2 rfl rfl rfl rfl) ?_
   refine AOps_store1 _ _ _ _ _ _ (seaD (⟨s4.x, s4.y, s4.one, s4.two, s4.most, w64 (s4.count + 1), s4.first⟩ : Sea)) _ rfl rfl rfl rfl rfl rfl rfl Tryz.sizeOf2 (by rw [seaD_length]; decide) (seaD_setc _ _) ?_
   refine AOps_nil ?_
   refine ACode_ret ?_
   cases h
   exact ⟨_, _, fun r a w h => ⟨r, h⟩, _, _, [], _, .nil, rfl, rfl, rfl, rfl, rfl⟩
  refine ACode_skip ?_
  refine kR ?_
  refine kN 1 rfl ?_
  refine ACode_block ?_
  refine ACode_loopW (fun k0 E H => ∃ (x5 : Int) (x6 : Sea), E = [(0, .ptr 0 0), (1, .d (.sl none (intsD p1))), (2, iV p2), (6, iV (p1.length : Int)), (7, iV x5)] ∧ H = [.box (seaD x6)] ∧ spec_l06Go_l0 k self p1 p2 k0 x5 x6 = some r) k _ _ (Weak_keep 1 hm [0, 1, 2, 6, 7] [] _ _ rfl rfl rfl) ⟨_, _, rfl, rfl, h⟩ ?_
  clear h
  rintro k0 E H ⟨x5, x6, rfl, rfl, h⟩
  cases k0 with
  | zero => cases (show (none : Option (Sea)) = some _ from h)
  | succ k0 =>
   rw [spec_l06Go_l0] at h
   refine kO (fun s10 => [(0, .ptr 0 0), (1, .d (.sl none (intsD p1))), (2, iV p2), (6, iV (p1.length : Int)), (7, iV x5)]) (fun s10 => [.box (seaD x6)]) h (fun os10 h hks10 => ?_) (fun s10 h => ?_)
   ·refine kL (fun s8 => [(0, .ptr 0 0), (1, .d (.sl none (intsD p1))), (2, iV p2), (6, iV (p1.length : Int)), (7, iV x5), (53, bV s8)]) (fun s8 => [.box (seaD x6)]) h (fun s8 h => ?_) (fun s8 h => ?_)
    ·refine (ACode_quiet mixed (by kernel_rfl) ?_)
     refine kQ 2 rfl ?_
     refine AQ_q 38 _ rfl rfl rfl (QOp_nilCheck_ptr _ _ _ _ rfl rfl rfl rfl) ?_
     refine AQ_q 39 _ rfl rfl rfl (QOp_fieldAddr_ptr _ _ _ _ _ _ 0 _ _ rfl Tryz.underlying62 rfl _ Tryz.sizeOf26 rfl rfl rfl rfl) ?_
     refine AQ_q 40 _ rfl rfl rfl (QOp_fieldAddr_ptr _ _ _ _ _ _ 0 _ _ rfl Tryz.underlying26 rfl _ Tryz.sizeOf2 rfl rfl rfl rfl) ?_
     refine AQ_q 41 _ rfl rfl rfl (QOp_load_ptr _ _ _ _ _ _ rfl Tryz.isAgg2 rfl rfl rfl) ?_
     refine AQ_q 42 _ rfl rfl rfl (QOp_lss _ _ _ _ _ _ _ rfl rfl rfl) ?_
     refine kQ 1 rfl ?_
     refine AQ_case 43 _ rfl (fun hb7 => ?_) (fun hb7 => ?_)
     ·have h := iteT hb7 h
      refine kQ 1 rfl ?_
      refine AQ_q 45 _ rfl rfl rfl (QOp_nilCheck_ptr _ _ _ _ rfl rfl rfl rfl) ?_
      refine AQ_q 46 _ rfl rfl rfl (QOp_fieldAddr_ptr _ _ _ _ _ _ 279 _ _ rfl Tryz.underlying62 rfl _ Tryz.sizeOf2 rfl rfl rfl rfl) ?_
      refine AQ_q 47 _ rfl rfl rfl (QOp_load_ptr _ _ _ _ _ _ rfl Tryz.isAgg2 rfl rfl (seaD_c _)) ?_
      refine kQ 1 rfl ?_
      refine AQ_q 49 _ rfl rfl rfl (QOp_nilCheck_ptr _ _ _ _ rfl rfl rfl rfl) ?_
      refine AQ_q 50 _ rfl rfl rfl (QOp_fieldAddr_ptr _ _ _ _ _ _ 278 _ _ rfl Tryz.underlying62 rfl _ Tryz.sizeOf2 rfl rfl rfl rfl) ?_
      refine AQ_q 51 _ rfl rfl rfl (QOp_load_ptr _ _ _ _ _ _ rfl Tryz.isAgg2 rfl rfl (seaD_m _)) ?_
      refine AQ_q 52 _ rfl rfl rfl (QOp_lss _ _ _ _ _ _ _ rfl rfl rfl) ?_
      refine kQ 1 rfl ?_
      refine AQ_nil ?_
      cases h
      exact Weak_keep 1 hm [0, 1, 2, 6, 7, 53] [] _ _ rfl rfl rfl
     have h := iteF hb7 h
     refine AQ_skip 44 rfl rfl rfl ?_
     refine AQ_skip 45 rfl rfl rfl ?_
     refine AQ_skip 46 rfl rfl rfl ?_
     refine AQ_skip 47 rfl rfl rfl ?_
     refine AQ_skip 48 rfl rfl rfl ?_
     refine AQ_skip 49 rfl rfl rfl ?_
     refine AQ_skip 50 rfl rfl rfl ?_
     refine AQ_skip 51 rfl rfl rfl ?_
     refine AQ_skip 52 rfl rfl rfl ?_
     refine kQ 1 rfl ?_
     refine AQ_nil ?_
     cases h
     exact Weak_keep 1 hm [0, 1, 2, 6, 7, 53] [] _ _ rfl rfl rfl
    refine kI h rfl (fun h _ => ?_) (fun h _ => ?_)
    ·refine ACode_skip ?_
     cases h
     exact ⟨_, rfl, Weak_keep 1 hm [0, 1, 2, 6, 7] [] _ _ rfl rfl rfl⟩
    refine ACode_exit ?_
    cases h
    have h := hks10
    cases h
    exact ⟨_, _, fun r a w h => ⟨r, h⟩, _, _, [], _, .nil, rfl, rfl, rfl, rfl, rfl⟩
   refine kB (fun s33 => [(0, .ptr 0 0), (1, .d (.sl none (intsD p1))), (2, iV p2), (6, iV (p1.length : Int)), (7, iV x5)]) (fun s33 => [.box (seaD s33)]) h (fun s33 h => ?_) (fun s33 h => ?_)
   ·refine ACode_block ?_
    refine kO (fun s17 => [(0, .ptr 0 0), (1, .d (.sl none (intsD p1))), (2, iV p2), (6, iV (p1.length : Int)), (7, iV x5)]) (fun s17 => [.box (seaD x6)]) h (fun os17 h hks17 => ?_) (fun s17 h => ?_)
    ·refine kB (fun s15 => [(0, .ptr 0 0), (1, .d (.sl none (intsD p1))), (2, iV p2), (6, iV (p1.length : Int)), (7, iV x5), (78, bV s15)]) (fun s15 => [.box (seaD x6)]) h (fun s15 h => ?_) (fun s15 h => ?_)
     ·refine (ACode_quiet mixed (by kernel_rfl) ?_)
      refine kQ 2 rfl ?_
      refine AQ_q 58 _ rfl rfl rfl (QOp_conv _ _ _ _ _ _ rfl rfl Tryz.underlying97 rfl) ?_
      obtain ⟨hc11, h⟩ := guardO h
      refine AQ_q 59 _ rfl rfl rfl (QOp_shr _ _ _ _ _ _ _ _ hc11 rfl rfl rfl) ?_
      refine AQ_q 60 _ rfl rfl rfl (QOp_and _ _ _ _ _ _ _ rfl rfl rfl) ?_
      refine AQ_q 61 _ rfl rfl rfl (QOp_eql _ _ _ _ _ _ _ rfl rfl rfl) ?_
      refine kQ 1 rfl ?_
      refine AQ_case 62 _ rfl (fun hb12 => ?_) (fun hb12 => ?_)
      ·have h := iteT hb12 h
       refine AQ_skip 63 rfl rfl rfl ?_
       refine AQ_skip 64 rfl rfl rfl ?_
       refine AQ_skip 65 rfl rfl rfl ?_
       refine AQ_skip 66 rfl rfl rfl ?_
       refine AQ_skip 67 rfl rfl rfl ?_
       refine AQ_skip 68 rfl rfl rfl ?_
       refine AQ_skip 69 rfl rfl rfl ?_
       refine AQ_skip 70 rfl rfl rfl ?_
       refine AQ_skip 71 rfl rfl rfl ?_
       refine AQ_skip 72 rfl rfl rfl ?_
       refine AQ_skip 73 rfl rfl rfl ?_
       refine AQ_skip 74 rfl rfl rfl ?_
       refine AQ_skip 75 rfl rfl rfl ?_
       refine AQ_skip 76 rfl rfl rfl ?_
       refine AQ_skip 77 rfl rfl rfl ?_
       refine kQ 1 rfl ?_
       refine AQ_nil ?_
       cases h
       exact Weak_keep 1 hm [0, 1, 2, 6, 7, 78] [] _ _ rfl rfl rfl
      have h := iteF hb12 h
      refine kQ 1 rfl ?_
      refine AQ_q 64 _ rfl rfl rfl (QOp_nilCheck_ptr _ _ _ _ rfl rfl rfl rfl) ?_
      refine AQ_q 65 _ rfl rfl rfl (QOp_fieldAddr_ptr _ _ _ _ _ _ 276 _ _ rfl Tryz.underlying62 rfl _ Tryz.sizeOf29 rfl rfl rfl rfl) ?_
      refine AQ_q 66 _ rfl rfl rfl (QOp_load_ptr _ _ _ _ _ _ rfl Tryz.isAgg29 rfl rfl (seaD_a _)) ?_
      refine kQ 1 rfl ?_
      obtain ⟨hc13, h⟩ := guardO h
      refine AQ_q 68 _ rfl rfl rfl (QOp_indexAddr_sl _ _ _ _ _ _ _ _ rfl Tryz.underlying29 Tryz.sizeOf2 hc13.1 (by rw [intsD_length]; exact hc13.2) rfl rfl) ?_
      refine AQ_q 69 _ rfl rfl rfl (QOp_load_pv _ _ _ _ _ rfl Tryz.isAgg2 rfl (intsD_get _ _ 0 (by omega))) ?_
      refine kQ 1 rfl ?_
      refine AQ_q 71 _ rfl rfl rfl (QOp_nilCheck_ptr _ _ _ _ rfl rfl rfl rfl) ?_
      refine AQ_q 72 _ rfl rfl rfl (QOp_fieldAddr_ptr _ _ _ _ _ _ 277 _ _ rfl Tryz.underlying62 rfl _ Tryz.sizeOf29 rfl rfl rfl rfl) ?_
      refine AQ_q 73 _ rfl rfl rfl (QOp_load_ptr _ _ _ _ _ _ rfl Tryz.isAgg29 rfl rfl (seaD_b _)) ?_
      refine kQ 1 rfl ?_
      obtain ⟨hc14, h⟩ := guardO h
      refine AQ_q 75 _ rfl rfl rfl (QOp_indexAddr_sl _ _ _ _ _ _ _ _ rfl Tryz.underlying29 Tryz.sizeOf2 hc14.1 (by rw [intsD_length]; exact hc14.2) rfl rfl) ?_
      refine AQ_q 76 _ rfl rfl rfl (QOp_load_pv _ _ _ _ _ rfl Tryz.isAgg2 rfl (intsD_get _ _ 0 (by omega))) ?_
      refine AQ_q 77 _ rfl rfl rfl (QOp_neq _ _ _ _ _ _ _ rfl rfl rfl) ?_
      refine kQ 1 rfl ?_
      refine AQ_nil ?_
      cases h
      exact Weak_keep 1 hm [0, 1, 2, 6, 7, 78] [] _ _ rfl rfl rfl
     refine kI h rfl (fun h _ => ?_) (fun h _ => ?_)
     ·refine ACode_exit ?_
      obtain ⟨rr, hz34, h2⟩ := bindO h
      obtain rfl := Option.some.inj h2
      obtain rfl := Option.some.inj (show some rr = some _ from hks17)
      have h := hz34
      cases h
      exact Weak_keep 1 hm [0, 1, 2, 6, 7] [] _ _ rfl rfl rfl
     refine ACode_skip ?_
     cases h
     exact ⟨_, rfl, Weak_keep 1 hm [0, 1, 2, 6, 7] [] _ _ rfl rfl rfl⟩
    refine kR ?_
    refine kN 1 rfl ?_
    refine kB (fun s27 => [(0, .ptr 0 0), (1, .d (.sl none (intsD p1))), (2, iV p2), (6, iV (p1.length : Int)), (7, iV x5), (8, bV s27)]) (fun s27 => [.box (seaD x6)]) h (fun s27 h => ?_) (fun s27 h => ?_)
    ·refine kR ?_
     refine kN 1 rfl ?_
     refine ACode_block ?_
     refine ACode_loopW (fun k1 E H => ∃ (x18 : Bool) (x19 : Int), E = [(0, .ptr 0 0), (1, .d (.sl none (intsD p1))), (2, iV p2), (6, iV (p1.length : Int)), (7, iV x5), (8, bV x18), (9, iV x19)] ∧ H = [.box (seaD x6)] ∧ spec_l06Go_l1 p1 x5 x6 k1 x18 x19 = some s27) k _ _ (Weak_keep 1 hm [0, 1, 2, 6, 7, 8, 9] [] _ _ rfl rfl rfl) ⟨_, _, rfl, rfl, h⟩ ?_
     clear h
     rintro k1 E H ⟨x18, x19, rfl, rfl, h⟩
     cases k1 with
     | zero => cases (show (none : Option (Bool)) = some _ from h)
     | succ k1 =>
      rw [spec_l06Go_l1] at h
      refine kO (fun s23 => [(0, .ptr 0 0), (1, .d (.sl none (intsD p1))), (2, iV p2), (6, iV (p1.length : Int)), (7, iV x5), (9, iV x19)]) (fun s23 => [.box (seaD x6)]) h (fun os23 h hks23 => ?_) (fun s23 h => ?_)
      ·refine kL (fun s21 => [(0, .ptr 0 0), (1, .d (.sl none (intsD p1))), (2, iV p2), (6, iV (p1.length : Int)), (7, iV x5), (8, bV x18), (9, iV x19), (84, bV s21)]) (fun s21 => [.box (seaD x6)]) h (fun s21 h => ?_) (fun s21 h => ?_)
       ·refine (ACode_region ?_)
        refine kM 2 rfl ?_
        refine AOps_q 81 _ rfl rfl rfl (QOp_lss _ _ _ _ _ _ _ rfl rfl rfl) ?_
        refine kM 1 rfl ?_
        refine AOps_case 82 _ rfl (fun hb20 => ?_) (fun hb20 => ?_)
        ·have h := iteT hb20 h
         refine kN 2 rfl ?_
         cases h
         exact Weak_keep 1 hm [0, 1, 2, 6, 7, 8, 9, 84] [] _ _ rfl rfl rfl
        have h := iteF hb20 h
        refine AOps_skip 83 rfl rfl rfl ?_
        refine kN 1 rfl ?_
        cases h
        exact Weak_keep 1 hm [0, 1, 2, 6, 7, 8, 9, 84] [] _ _ rfl rfl rfl
       refine kI h rfl (fun h _ => ?_) (fun h _ => ?_)
       ·refine ACode_skip ?_
        cases h
        exact ⟨_, rfl, Weak_keep 1 hm [0, 1, 2, 6, 7, 9] [] _ _ rfl rfl rfl⟩
       refine ACode_exit ?_
       obtain ⟨rr, hz35, h2⟩ := bindO h
       obtain rfl := Option.some.inj h2
       obtain rfl := Option.some.inj (show some rr = some _ from hks23)
       have h := hz35
       cases h
       exact Weak_keep 1 hm [0, 1, 2, 6, 7, 8] [] _ _ rfl rfl rfl
      refine ACode_seq ?_
      refine ACode_block ?_
      refine (ACode_quiet mixed (by kernel_rfl) ?_)
      refine kQ 1 rfl ?_
      refine AQ_q 88 _ rfl rfl rfl (QOp_nilCheck_ptr _ _ _ _ rfl rfl rfl rfl) ?_
      refine AQ_q 89 _ rfl rfl rfl (QOp_fieldAddr_ptr _ _ _ _ _ _ 0 _ _ rfl Tryz.underlying62 rfl _ Tryz.sizeOf26 rfl rfl rfl rfl) ?_
      refine AQ_q 90 _ rfl rfl rfl (QOp_loadN_ptr _ _ _ _ _ _ _ rfl Tryz.isAgg26 Tryz.sizeOf26 rfl rfl (seaD_x _) (colD_length _)) ?_
      refine kQ 2 rfl ?_
      obtain ⟨r24, hr24, h⟩ := bindO h
      refine AQ_call 93 _ _ _ _ _ _ _ _ _ rfl rfl rfl rfl rfl rfl rfl Tryz.call89 rfl rfl rfl (spec_l01At_ac x6.x x19 (p1.length : Int) _ hr24) ?_
      refine kQ 1 rfl ?_
      refine AQ_q 95 _ rfl rfl rfl (QOp_nilCheck_ptr _ _ _ _ rfl rfl rfl rfl) ?_
      refine AQ_q 96 _ rfl rfl rfl (QOp_fieldAddr_ptr _ _ _ _ _ _ 138 _ _ rfl Tryz.underlying62 rfl _ Tryz.sizeOf26 rfl rfl rfl rfl) ?_
      refine AQ_q 97 _ rfl rfl rfl (QOp_loadN_ptr _ _ _ _ _ _ _ rfl Tryz.isAgg26 Tryz.sizeOf26 rfl rfl (seaD_y _) (colD_length _)) ?_
      refine kQ 2 rfl ?_
      obtain ⟨hc25, h⟩ := guardO h
      refine AQ_q 100 _ rfl rfl rfl (QOp_indexAddr_sl _ _ _ _ _ _ _ _ rfl Tryz.underlying29 Tryz.sizeOf2 hc25.1 (by rw [intsD_length]; exact hc25.2) rfl rfl) ?_
      refine AQ_q 101 _ rfl rfl rfl (QOp_load_pv _ _ _ _ _ rfl Tryz.isAgg2 rfl (intsD_get _ _ 0 (by omega))) ?_
      refine kQ 1 rfl ?_
      obtain ⟨r26, hr26, h⟩ := bindO h
      refine AQ_call 103 _ _ _ _ _ _ _ _ _ rfl rfl rfl rfl rfl rfl rfl Tryz.call89 rfl rfl rfl (spec_l01At_ac x6.y (p1.getD x19.toNat 0) x5 _ hr26) ?_
      refine AQ_q 104 _ rfl rfl rfl (QOp_eql _ _ _ _ _ _ _ rfl rfl rfl) ?_
      refine kQ 1 rfl ?_
      refine AQ_nil ?_
      refine (ACode_region ?_)
      refine kM 1 rfl ?_
      refine AOps_q 86 _ rfl rfl rfl (QOp_add _ _ _ _ _ _ _ rfl rfl rfl) ?_
      refine kN 1 rfl ?_
      exact ⟨k1, _, _, Nat.lt_succ_self _, Weak_keep 1 hm [0, 1, 2, 6, 7, 8, 9] [] _ _ rfl rfl rfl, _, _, rfl, rfl, h⟩
    refine kR ?_
    refine kN 1 rfl ?_
    refine kI h rfl (fun h _ => ?_) (fun h _ => ?_)
    ·refine (ACode_region ?_)
     refine kM 2 rfl ?_
     obtain ⟨r29, hr29, h⟩ := bindO h
     refine kC [] 108 (.vec 1 0) [.box (seaD x6), .vec 0 (intsD r29)] rfl Tryz.call86 rfl rfl (spec_l01Own_ac p1 _ hr29) rfl ?_
     refine kM 1 rfl ?_
     refine AOps_buildSlice 110 _ _ _ [_] (intsD ([x5])) _ rfl rfl rfl rfl rfl (by decide) Tryz.underlying29 Tryz.sizeOf2 (zero_of Tryz.typeInfo2 rfl) rfl rfl (intsD_one _) ?_
     obtain ⟨hc30, h⟩ := guardO h
     refine AOps_append 111 _ _ _ _ _ _ _ _ _ _ _ _ rfl rfl rfl rfl rfl rfl rfl Tryz.underlying29 Tryz.type2 rfl rfl rfl (by decide) rfl rfl rfl rfl (intsD_one _) (by rw [intsD_length, intsD_length]; exact hc30) ?_
     rw [intsD_app]
     refine kM 2 rfl ?_
     refine AOps_q 114 _ rfl rfl rfl (QOp_conv _ _ _ _ _ _ rfl rfl Tryz.underlying97 rfl) ?_
     obtain ⟨hc31, h⟩ := guardO h
     refine AOps_q 115 _ rfl rfl rfl (QOp_shl _ _ _ _ _ _ _ _ hc31 rfl rfl rfl) ?_
     refine AOps_q 116 _ rfl rfl rfl (QOp_or _ _ _ _ _ _ _ rfl rfl rfl) ?_
     refine AOps_freezeL [111] 1 1 _ (allc (rfl) (fun _ h => nomatch h)) rfl ?_
     obtain ⟨r32, hr32, h⟩ := bindO h
     refine kC [0] 117 (.tup []) [.box (seaD r32), .gone, .vec 0 (intsD ([x5]))] rfl Tryz.call84 rfl rfl (hself x6 (r29 ++ ([x5])) (bOr .i64 p2 (bShl .i64 1 (IntKind.u64.wrap x5))) _ hr32) rfl ?_
     refine AOps_nil ?_
     cases h
     exact Weak_keep 1 hm [0, 1, 2, 6, 7] [] _ _ rfl rfl rfl
    refine ACode_skip ?_
    cases h
    exact Weak_keep 1 hm [0, 1, 2, 6, 7] [] _ _ rfl rfl rfl
   refine (ACode_region ?_)
   refine kM 1 rfl ?_
   refine AOps_q 55 _ rfl rfl rfl (QOp_add _ _ _ _ _ _ _ rfl rfl rfl) ?_
   refine kN 1 rfl ?_
   exact ⟨k0, _, _, Nat.lt_succ_self _, Weak_keep 1 hm [0, 1, 2, 6, 7] [] _ _ rfl rfl rfl, _, _, rfl, rfl, h⟩

-- loop.example/g01362/spec.l06Between
def spec_l06Between (k : Nat) (p0 : Col) (p1 : Col) (p2 : Int) : Option (Sea) :=
 (spec_l06Types k p0).bind fun r1 => (spec_l06Types k p1).bind fun r2 => (letO (if !decide (p0.p = p1.p) then true else !decide (p0.k = p1.k)) fun (s4 : Bool) => (if s4 then some (.inr (⟨p0, p1, r1, r2, p2, 0, []⟩ : Sea)) else some (.inl ())) : Option (Sum (Unit) (Sea))).bind fun os6 => (match os6 with | .inl s6 => (spec_l06Go k (⟨p0, p1, r1, r2, p2, 0, []⟩ : Sea) ([] : List Int) 0).bind fun r7 => some r7 | .inr rr => some rr)
set_option maxRecDepth 100000 in
theorem spec_l06Between_ac (k : Nat) (p0 : Col) (p1 : Col) (p2 : Int) (r : Sea) (h : spec_l06Between k p0 p1 p2 = some r) : AC Tryz.prog 39 [.d (.agg (colD p0)), .d (.agg (colD p1)), iV p2] [] (fun res H' => res = [.ptr 0 0] ∧ H' = [.box (seaD r)]) := by
 refine AC_of_body true Tryz.func39 rfl Tryz.ntmps39 (rvs := [.tmp 6]) rfl rfl (fun G hG => ?_)
 have hm : G.H.length = 0 := by rw [hG]; rfl
 have hz : zeroG G.H = true := by rw [hG]; rfl
 unfold spec_l06Between at h
 refine kR ?_
 refine AOps_boxI 3 _ _ (.agg (colD p0)) (colD p0) rfl (colD_one _) rfl rfl rfl rfl rfl ?_
 refine AOps_boxI 4 _ _ (.agg (colD p1)) (colD p1) rfl (colD_one _) rfl rfl rfl rfl rfl ?_
 refine kN 1 rfl ?_
 obtain ⟨r1, hr1, h⟩ := bindO h
 obtain ⟨r2, hr2, h⟩ := bindO h
 refine ACode_seqJ (fun E' H' => Weak 34 G E' H' [(3, .d (.pv (colD p0) 0)), (4, .d (.pv (colD p1) 0)), (7, .ptr 0 0)] [.box (seaD (⟨p0, p1, r1, r2, p2, 0, []⟩ : Sea))]) ?_ ?_
 ·refine ACode_any mixed ?_
  refine AAny_q 0 8 _ rfl (by kernel_rfl) rfl rfl rfl (QOp_loadN_pv _ _ _ _ _ _ rfl Tryz.isAgg26 Tryz.sizeOf26 rfl (colD_all _) (colD_length _)) ?_
  refine AAny_q 1 9 _ rfl (by kernel_rfl) rfl rfl rfl (QOp_loadN_pv _ _ _ _ _ _ rfl Tryz.isAgg26 Tryz.sizeOf26 rfl (colD_all _) (colD_length _)) ?_
  refine AAny_q 2 10 _ rfl (by kernel_rfl) rfl rfl rfl (QOp_loadN_pv _ _ _ _ _ _ rfl Tryz.isAgg26 Tryz.sizeOf26 rfl (colD_all _) (colD_length _)) ?_
  refine AAny_q 4 12 _ rfl (by kernel_rfl) rfl rfl rfl (QOp_loadN_pv _ _ _ _ _ _ rfl Tryz.isAgg26 Tryz.sizeOf26 rfl (colD_all _) (colD_length _)) ?_
  refine AAny_q 6 14 _ rfl (by kernel_rfl) rfl rfl rfl (QOp_move _ _ rfl rfl) ?_
  refine AAny_all [3] (by kernel_rfl) rfl (allc ?_ (fun _ h => nomatch h))
  refine AStep_callN 3 11 _ _ _ _ _ _ _ _ _ rfl rfl rfl rfl rfl rfl rfl rfl Tryz.call83 rfl rfl rfl (spec_l06Types_ac k p0 _ hr1) ?_
  rintro _ _ ⟨rfl, rfl⟩
  refine ⟨(allc (fun _ _ => trivial) (fun _ h => nomatch h)), (allc (trivial) (fun _ h => nomatch h)), AAny_as 11 (v' := .vec 0 0) (H' := [.vec 0 (intsD r1)]) rfl rfl ?_⟩
  refine AAny_all [5] (by kernel_rfl) rfl (allc ?_ (fun _ h => nomatch h))
  refine AStep_callN 5 13 _ _ _ _ _ _ _ _ _ rfl rfl rfl rfl rfl rfl rfl rfl Tryz.call83 rfl rfl rfl (spec_l06Types_ac k p1 _ hr2) ?_
  rintro _ _ ⟨rfl, rfl⟩
  refine ⟨(allc (fun _ _ => trivial) (fun _ h => nomatch h)), (allc (trivial) (fun _ h => nomatch h)), AAny_as 13 (v' := .vec 1 0) (H' := [.vec 0 (intsD r1), .vec 0 (intsD r2)]) rfl rfl ?_⟩
  refine AAny_freeze 11 0 0 _ rfl rfl ?_
  refine AAny_freeze 13 1 0 _ rfl rfl ?_
  refine AAny_q 7 15 _ rfl (by kernel_rfl) rfl rfl rfl (QOp_build _ _ [_, _, _, _, _] [0, 1, 2, 3, 4] [.agg (colD p0), .agg (colD p1), .sl none (intsD r1), .sl none (intsD r2), iD p2] _ seaZ (seaN (⟨p0, p1, r1, r2, p2, 0, []⟩ : Sea)) [(0, 138), (138, 138), (276, 1), (277, 1), (278, 1), (279, 1), (280, 1)] rfl rfl Tryz.underlying62 (zero_of Tryz.typeInfo62 rfl) (fun w => by simp [Tryz.sizeOf26, Tryz.sizeOf29, Tryz.sizeOf2]) rfl (by rfl) (sea_fillB p0 p1 r1 r2 p2) (allc (colD_cellsOK _) (allc (colD_cellsOK _) (allc (ok1 rfl) (allc (ok1 rfl) (allc (ok1 rfl) (fun _ h => nomatch h))))))) ?_
  refine AAny_all [8] (by kernel_rfl) rfl (allc ?_ (fun _ h => nomatch h))
  refine AStep_of 8 rfl rfl (Bl_box _ _ rfl) ?_
  refine AOps_weak (Weak_aggdrop 15 280 _ _ _ (seaD (⟨p0, p1, r1, r2, p2, 0, []⟩ : Sea)) rfl (seaN_f _) (seaN_drop _ rfl rfl)) ?_
  refine AOps_boxM 16 _ _ (.agg (seaD (⟨p0, p1, r1, r2, p2, 0, []⟩ : Sea))) (seaD (⟨p0, p1, r1, r2, p2, 0, []⟩ : Sea)) rfl (seaD_one _) rfl rfl rfl rfl rfl ?_
  refine AOps_nil ?_
  refine AAny_q 9 7 _ rfl (by kernel_rfl) rfl rfl rfl (QOp_assign _ _ rfl rfl) ?_
  refine AAny_done (by kernel_rfl) ?_
  exact Weak_keep 0 hm [3, 4, 7] [2] _ _ rfl rfl rfl
 intro E' H' hw
 refine ACode_weak hw ?_
 refine kO (fun s6 => [(7, .ptr 0 0)]) (fun s6 => [.box (seaD (⟨p0, p1, r1, r2, p2, 0, []⟩ : Sea))]) h (fun os6 h hks6 => ?_) (fun s6 h => ?_)
 ·refine kL (fun s4 => [(7, .ptr 0 0), (28, bV s4)]) (fun s4 => [.box (seaD (⟨p0, p1, r1, r2, p2, 0, []⟩ : Sea))]) h (fun s4 h => ?_) (fun s4 h => ?_)
  ·refine (ACode_region ?_)
   refine AOps_q 17 _ rfl rfl rfl (QOp_fieldAddr_pv _ _ _ _ _ 0 _ _ rfl Tryz.underlying26 rfl _ Tryz.sizeOf2 rfl rfl) ?_
   refine AOps_q 18 _ rfl rfl rfl (QOp_load_pv _ _ _ _ _ rfl Tryz.isAgg2 rfl rfl) ?_
   refine AOps_q 19 _ rfl rfl rfl (QOp_fieldAddr_pv _ _ _ _ _ 0 _ _ rfl Tryz.underlying26 rfl _ Tryz.sizeOf2 rfl rfl) ?_
   refine AOps_q 20 _ rfl rfl rfl (QOp_load_pv _ _ _ _ _ rfl Tryz.isAgg2 rfl rfl) ?_
   refine AOps_q 21 _ rfl rfl rfl (QOp_neq _ _ _ _ _ _ _ rfl rfl rfl) ?_
   refine kM 1 rfl ?_
   refine AOps_case 22 _ rfl (fun hb3 => ?_) (fun hb3 => ?_)
   ·have h := iteT hb3 h
    refine AOps_skip 23 rfl rfl rfl ?_
    refine AOps_skip 24 rfl rfl rfl ?_
    refine AOps_skip 25 rfl rfl rfl ?_
    refine AOps_skip 26 rfl rfl rfl ?_
    refine AOps_skip 27 rfl rfl rfl ?_
    refine kN 1 rfl ?_
    cases h
    exact Weak_keep 0 hm [7, 28] [0] _ _ rfl rfl rfl
   have h := iteF hb3 h
   refine AOps_q 23 _ rfl rfl rfl (QOp_fieldAddr_pv _ _ _ _ _ 1 _ _ rfl Tryz.underlying26 rfl _ Tryz.sizeOf2 rfl rfl) ?_
   refine AOps_q 24 _ rfl rfl rfl (QOp_load_pv _ _ _ _ _ rfl Tryz.isAgg2 rfl rfl) ?_
   refine AOps_q 25 _ rfl rfl rfl (QOp_fieldAddr_pv _ _ _ _ _ 1 _ _ rfl Tryz.underlying26 rfl _ Tryz.sizeOf2 rfl rfl) ?_
   refine AOps_q 26 _ rfl rfl rfl (QOp_load_pv _ _ _ _ _ rfl Tryz.isAgg2 rfl rfl) ?_
   refine AOps_q 27 _ rfl rfl rfl (QOp_neq _ _ _ _ _ _ _ rfl rfl rfl) ?_
   refine kN 1 rfl ?_
   cases h
   exact Weak_keep 0 hm [7, 28] [0] _ _ rfl rfl rfl
  refine kI h rfl (fun h _ => ?_) (fun h _ => ?_)
  ·refine kR ?_
   refine kN 2 rfl ?_
   refine ACode_ret ?_
   cases h
   have h := hks6
   cases h
   exact ⟨_, _, Weak_reset 0 hm hz [6] _ _ rfl rfl, _, _, [0], _, (.cons (ResV_tmp _ _ rfl) .nil), rfl, rfl, rfl, rfl, rfl⟩
  refine ACode_skip ?_
  cases h
  exact ⟨_, rfl, Weak_keep 0 hm [7] [0] _ _ rfl rfl rfl⟩
 refine kR ?_
 refine kM 1 rfl ?_
 refine AOps_buildSlice 31 _ _ _ [] (intsD ([] : List Int)) _ rfl rfl rfl rfl rfl (by decide) Tryz.underlying29 Tryz.sizeOf2 (zero_of Tryz.typeInfo2 rfl) rfl rfl (intsD_one _) ?_
 refine AOps_freezeL [31] 1 0 _ (allc (rfl) (fun _ h => nomatch h)) rfl ?_
 obtain ⟨r7, hr7, h⟩ := bindO h
 refine kC [0] 32 (.tup []) [.box (seaD r7), .gone] rfl Tryz.call84 rfl rfl (spec_l06Go_ac k (⟨p0, p1, r1, r2, p2, 0, []⟩ : Sea) ([] : List Int) 0 _ hr7) rfl ?_
 refine AOps_nil ?_
 refine kR ?_
 refine kN 2 rfl ?_
 refine ACode_ret ?_
 cases h
 exact ⟨_, _, Weak_reset 0 hm hz [6] _ _ rfl rfl, _, _, [0], _, (.cons (ResV_tmp _ _ rfl) .nil), rfl, rfl, rfl, rfl, rfl⟩

-- loop.example/g01362/spec.FindRenumbering
def spec_FindRenumbering (k : Nat) (p0 : Col) (p1 : Col) : Option (List Int × Int) :=
 (((spec_l01Is k p0).bind fun r1 => (if !r1 then some true else (spec_l01Is k p1).bind fun r3 => some (!r3)) : Option (Bool)).bind fun s4 => (if s4 then some (.inr ([], 1)) else some (.inl ())) : Option (Sum (Unit) (List Int × Int))).bind fun os6 => (match os6 with | .inl s6 => (spec_l06Between k p0 p1 1).bind fun r7 => (if decide (r7.count = 0) then some ([], 4) else some (r7.first, 0)) | .inr rr => some rr)
set_option maxRecDepth 100000 in
theorem spec_FindRenumbering_ac (k : Nat) (p0 : Col) (p1 : Col) (r : List Int × Int) (h : spec_FindRenumbering k p0 p1 = some r) : AC Tryz.prog 8 [.d (.agg (colD p0)), .d (.agg (colD p1))] [] (fun res H' => res = [.d (.sl none (intsD r.1)), iV r.2] ∧ H' = []) := by
 refine AC_of_body true Tryz.func8 rfl Tryz.ntmps8 (rvs := [.tmp 4, .tmp 5]) rfl rfl (fun G hG => ?_)
 have hm : G.H.length = 0 := by rw [hG]; rfl
 have hz : zeroG G.H = true := by rw [hG]; rfl
 unfold spec_FindRenumbering at h
 refine kR ?_
 refine AOps_boxI 2 _ _ (.agg (colD p0)) (colD p0) rfl (colD_one _) rfl rfl rfl rfl rfl ?_
 refine AOps_boxI 3 _ _ (.agg (colD p1)) (colD p1) rfl (colD_one _) rfl rfl rfl rfl rfl ?_
 refine kN 2 rfl ?_
 refine kO (fun s6 => [(2, .d (.pv (colD p0) 0)), (3, .d (.pv (colD p1) 0))]) (fun s6 => []) h (fun os6 h hks6 => ?_) (fun s6 h => ?_)
 ·refine kB (fun s4 => [(2, .d (.pv (colD p0) 0)), (3, .d (.pv (colD p1) 0)), (14, bV s4)]) (fun s4 => []) h (fun s4 h => ?_) (fun s4 h => ?_)
  ·refine (ACode_region ?_)
   refine AOps_q 7 _ rfl rfl rfl (QOp_loadN_pv _ _ _ _ _ _ rfl Tryz.isAgg26 Tryz.sizeOf26 rfl (colD_all _) (colD_length _)) ?_
   obtain ⟨r1, hr1, h⟩ := bindO h
   refine kC [] 8 (bV r1) [] rfl Tryz.call38 rfl rfl (spec_l01Is_ac k p0 _ hr1) rfl ?_
   refine AOps_q 9 _ rfl rfl rfl (QOp_not _ _ _ rfl rfl) ?_
   refine kM 1 rfl ?_
   refine AOps_case 10 _ rfl (fun hb2 => ?_) (fun hb2 => ?_)
   ·have h := iteT hb2 h
    refine AOps_skip 11 rfl rfl rfl ?_
    refine AOps_skip 12 rfl rfl rfl ?_
    refine AOps_skip 13 rfl rfl rfl ?_
    refine kN 1 rfl ?_
    cases h
    exact Weak_keep 0 hm [2, 3, 14] [] _ _ rfl rfl rfl
   have h := iteF hb2 h
   refine AOps_q 11 _ rfl rfl rfl (QOp_loadN_pv _ _ _ _ _ _ rfl Tryz.isAgg26 Tryz.sizeOf26 rfl (colD_all _) (colD_length _)) ?_
   obtain ⟨r3, hr3, h⟩ := bindO h
   refine kC [] 12 (bV r3) [] rfl Tryz.call38 rfl rfl (spec_l01Is_ac k p1 _ hr3) rfl ?_
   refine AOps_q 13 _ rfl rfl rfl (QOp_not _ _ _ rfl rfl) ?_
   refine kN 1 rfl ?_
   cases h
   exact Weak_keep 0 hm [2, 3, 14] [] _ _ rfl rfl rfl
  refine kI h rfl (fun h _ => ?_) (fun h _ => ?_)
  ·refine kR ?_
   refine kN 2 rfl ?_
   refine ACode_ret ?_
   cases h
   have h := hks6
   cases h
   exact ⟨_, _, fun r a w h => ⟨r, h⟩, _, _, [], _, (.cons (ResV_tmp _ _ rfl) (.cons (ResV_tmp _ _ rfl) .nil)), rfl, rfl, rfl, rfl, rfl⟩
  refine ACode_skip ?_
  cases h
  exact ⟨_, rfl, Weak_keep 0 hm [2, 3] [] _ _ rfl rfl rfl⟩
 refine kR ?_
 refine AOps_q 15 _ rfl rfl rfl (QOp_loadN_pv _ _ _ _ _ _ rfl Tryz.isAgg26 Tryz.sizeOf26 rfl (colD_all _) (colD_length _)) ?_
 refine AOps_q 16 _ rfl rfl rfl (QOp_loadN_pv _ _ _ _ _ _ rfl Tryz.isAgg26 Tryz.sizeOf26 rfl (colD_all _) (colD_length _)) ?_
 obtain ⟨r7, hr7, h⟩ := bindO h
 refine kC [] 17 (.ptr 0 0) [.box (seaD r7)] rfl Tryz.call39 rfl rfl (spec_l06Between_ac k p0 p1 1 _ hr7) rfl ?_
 refine kN 1 rfl ?_
 refine ACode_seq ?_
 refine kR ?_
 refine kM 1 rfl ?_
 refine AOps_q 19 _ rfl rfl rfl (QOp_nilCheck_ptr _ _ _ _ rfl rfl rfl rfl) ?_
 refine AOps_q 20 _ rfl rfl rfl (QOp_fieldAddr_ptr _ _ _ _ _ _ 279 _ _ rfl Tryz.underlying62 rfl _ Tryz.sizeOf2 rfl rfl rfl rfl) ?_
 refine AOps_q 21 _ rfl rfl rfl (QOp_load_ptr _ _ _ _ _ _ rfl Tryz.isAgg2 rfl rfl (seaD_c _)) ?_
 refine AOps_q 22 _ rfl rfl rfl (QOp_eql _ _ _ _ _ _ _ rfl rfl rfl) ?_
 refine AOps_nil ?_
 refine kI h rfl (fun h _ => ?_) (fun h _ => ?_)
 ·refine kR ?_
  refine kN 2 rfl ?_
  refine ACode_ret ?_
  cases h
  exact ⟨_, _, fun r a w h => ⟨r, h⟩, _, _, [], _, (.cons (ResV_tmp _ _ rfl) (.cons (ResV_tmp _ _ rfl) .nil)), rfl, rfl, rfl, rfl, rfl⟩
 refine ACode_skip ?_
 refine kR ?_
 refine kM 1 rfl ?_
 refine AOps_q 24 _ rfl rfl rfl (QOp_nilCheck_ptr _ _ _ _ rfl rfl rfl rfl) ?_
 refine AOps_q 25 _ rfl rfl rfl (QOp_fieldAddr_ptr _ _ _ _ _ _ 280 _ _ rfl Tryz.underlying62 rfl _ Tryz.sizeOf29 rfl rfl rfl rfl) ?_
 refine AOps_q 26 _ rfl rfl rfl (QOp_load_ptr _ _ _ _ _ _ rfl Tryz.isAgg29 rfl rfl (seaD_f _)) ?_
 refine kN 2 rfl ?_
 refine ACode_ret ?_
 cases h
 exact ⟨_, _, fun r a w h => ⟨r, h⟩, _, _, [], _, (.cons (ResV_tmp _ _ rfl) (.cons (ResV_tmp _ _ rfl) .nil)), rfl, rfl, rfl, rfl, rfl⟩

-- loop.example/g01362/laws.likeInts
def laws_likeInts_l0 (p0 : List Int) (p1 : List Int) : Nat → Int → Option (Sum (Unit) (Bool))
 | 0, _ => none
 | k0 + 1, x2 => (if decide (x2 < (p0.length : Int)) then (if 0 ≤ x2 ∧ x2 < (p0.length : Int) then (if 0 ≤ x2 ∧ x2 < (p1.length : Int) then (if !decide ((p0.getD x2.toNat 0) = (p1.getD x2.toNat 0)) then some (.inr false) else laws_likeInts_l0 p0 p1 k0 (w64 (x2 + 1))) else none) else none) else some (.inl ()))
def laws_likeInts (k : Nat) (p0 : List Int) (p1 : List Int) : Option (Bool) :=
 (if !decide ((p0.length : Int) = (p1.length : Int)) then some false else (laws_likeInts_l0 p0 p1 k 0 : Option (Sum (Unit) (Bool))).bind fun os7 => (match os7 with | .inl s7 => some true | .inr rr => some rr))
set_option maxRecDepth 100000 in
theorem laws_likeInts_ac (k : Nat) (p0 : List Int) (p1 : List Int) (r : Bool) (h : laws_likeInts k p0 p1 = some r) : AC Tryz.prog 9 [.d (.sl none (intsD p0)), .d (.sl none (intsD p1))] [] (fun res H' => res = [bV r] ∧ H' = []) := by
 refine AC_of_body true Tryz.func9 rfl Tryz.ntmps9 (rvs := [.tmp 4]) rfl rfl (fun G hG => ?_)
 have hm : G.H.length = 0 := by rw [hG]; rfl
 have hz : zeroG G.H = true := by rw [hG]; rfl
 unfold laws_likeInts at h
 refine kR ?_
 refine kN 1 rfl ?_
 refine ACode_seq ?_
 refine kR ?_
 refine kM 1 rfl ?_
 refine AOps_q 7 _ rfl rfl rfl (QOp_len_sl _ _ _ _ _ _ _ (intsD_length _) rfl rfl rfl rfl Tryz.underlying29 rfl) ?_
 refine kM 1 rfl ?_
 refine AOps_q 9 _ rfl rfl rfl (QOp_len_sl _ _ _ _ _ _ _ (intsD_length _) rfl rfl rfl rfl Tryz.underlying29 rfl) ?_
 refine AOps_q 10 _ rfl rfl rfl (QOp_neq _ _ _ _ _ _ _ rfl rfl rfl) ?_
 refine AOps_nil ?_
 refine kI h rfl (fun h _ => ?_) (fun h _ => ?_)
 ·refine kR ?_
  refine kN 1 rfl ?_
  refine ACode_ret ?_
  cases h
  exact ⟨_, _, fun r a w h => ⟨r, h⟩, _, _, [], _, (.cons (ResV_tmp _ _ rfl) .nil), rfl, rfl, rfl, rfl, rfl⟩
 refine ACode_skip ?_
 refine kO (fun s7 => []) (fun s7 => []) h (fun os7 h hks7 => ?_) (fun s7 h => ?_)
 ·refine kR ?_
  refine kN 1 rfl ?_
  refine ACode_block ?_
  refine ACode_loopW (fun k0 E H => ∃ (x2 : Int), E = [(0, .d (.sl none (intsD p0))), (1, .d (.sl none (intsD p1))), (5, iV x2)] ∧ H = [] ∧ laws_likeInts_l0 p0 p1 k0 x2 = some os7) k _ _ (Weak_keep 0 hm [0, 1, 5] [] _ _ rfl rfl rfl) ⟨_, rfl, rfl, h⟩ ?_
  clear h
  rintro k0 E H ⟨x2, rfl, rfl, h⟩
  cases k0 with
  | zero => cases (show (none : Option (Sum (Unit) (Bool))) = some _ from h)
  | succ k0 =>
   rw [laws_likeInts_l0] at h
   refine ACode_seq ?_
   refine kR ?_
   refine kM 2 rfl ?_
   refine AOps_q 13 _ rfl rfl rfl (QOp_len_sl _ _ _ _ _ _ _ (intsD_length _) rfl rfl rfl rfl Tryz.underlying29 rfl) ?_
   refine AOps_q 14 _ rfl rfl rfl (QOp_lss _ _ _ _ _ _ _ rfl rfl rfl) ?_
   refine AOps_nil ?_
   refine kI h rfl (fun h _ => ?_) (fun h _ => ?_)
   ·refine ACode_skip ?_
    refine ACode_seq ?_
    refine ACode_block ?_
    refine ACode_seq (ACode_quiet mixed (by kernel_rfl) ?_)
    refine kQ 2 rfl ?_
    obtain ⟨hc4, h⟩ := guardO h
    refine AQ_q 19 _ rfl rfl rfl (QOp_indexAddr_sl _ _ _ _ _ _ _ _ rfl Tryz.underlying29 Tryz.sizeOf2 hc4.1 (by rw [intsD_length]; exact hc4.2) rfl rfl) ?_
    refine AQ_q 20 _ rfl rfl rfl (QOp_load_pv _ _ _ _ _ rfl Tryz.isAgg2 rfl (intsD_get _ _ 0 (by omega))) ?_
    refine kQ 2 rfl ?_
    obtain ⟨hc5, h⟩ := guardO h
    refine AQ_q 23 _ rfl rfl rfl (QOp_indexAddr_sl _ _ _ _ _ _ _ _ rfl Tryz.underlying29 Tryz.sizeOf2 hc5.1 (by rw [intsD_length]; exact hc5.2) rfl rfl) ?_
    refine AQ_q 24 _ rfl rfl rfl (QOp_load_pv _ _ _ _ _ rfl Tryz.isAgg2 rfl (intsD_get _ _ 0 (by omega))) ?_
    refine AQ_q 25 _ rfl rfl rfl (QOp_neq _ _ _ _ _ _ _ rfl rfl rfl) ?_
    refine AQ_nil ?_
    refine kI h rfl (fun h _ => ?_) (fun h _ => ?_)
    ·refine kR ?_
     refine kN 1 rfl ?_
     refine ACode_ret ?_
     cases h
     have h := hks7
     cases h
     exact ⟨_, _, fun r a w h => ⟨r, h⟩, _, _, [], _, (.cons (ResV_tmp _ _ rfl) .nil), rfl, rfl, rfl, rfl, rfl⟩
    refine ACode_skip ?_
    refine (ACode_region ?_)
    refine kM 1 rfl ?_
    refine AOps_q 16 _ rfl rfl rfl (QOp_add _ _ _ _ _ _ _ rfl rfl rfl) ?_
    refine kN 1 rfl ?_
    exact ⟨k0, _, _, Nat.lt_succ_self _, Weak_keep 0 hm [0, 1, 5] [] _ _ rfl rfl rfl, _, rfl, rfl, h⟩
   refine ACode_exit ?_
   cases h
   exact ⟨_, rfl, Weak_keep 0 hm [] [] _ _ rfl rfl rfl⟩
 refine kR ?_
 refine kN 1 rfl ?_
 refine ACode_ret ?_
 cases h
 exact ⟨_, _, fun r a w h => ⟨r, h⟩, _, _, [], _, (.cons (ResV_tmp _ _ rfl) .nil), rfl, rfl, rfl, rfl, rfl⟩

-- loop.example/g01362/impl.AreIsomorphic
def impl_AreIsomorphic (k : Nat) (p0 : Col) (p1 : Col) : Option (Bool × Int) :=
 (((impl_Colouring_isColouring k p0).bind fun r1 => (if !r1 then some true else (impl_Colouring_isColouring k p1).bind fun r3 => some (!r3)) : Option (Bool)).bind fun s4 => (if s4 then some (.inr (false, 1)) else some (.inl ())) : Option (Sum (Unit) (Bool × Int))).bind fun os6 => (match os6 with | .inl s6 => (impl_Colouring_renumbering k p0 p1).bind fun r7 => some (r7.2, 0) | .inr rr => some rr)
set_option maxRecDepth 100000 in
theorem impl_AreIsomorphic_ac (k : Nat) (p0 : Col) (p1 : Col) (r : Bool × Int) (h : impl_AreIsomorphic k p0 p1 = some r) : AC Tryz.prog 10 [.d (.agg (colD p0)), .d (.agg (colD p1))] [] (fun res H' => res = [bV r.1, iV r.2] ∧ H' = []) := by
 refine AC_of_body true Tryz.func10 rfl Tryz.ntmps10 (rvs := [.tmp 4, .tmp 5]) rfl rfl (fun G hG => ?_)
 have hm : G.H.length = 0 := by rw [hG]; rfl
 have hz : zeroG G.H = true := by rw [hG]; rfl
 unfold impl_AreIsomorphic at h
 refine kR ?_
 refine AOps_boxI 2 _ _ (.agg (colD p0)) (colD p0) rfl (colD_one _) rfl rfl rfl rfl rfl ?_
 refine AOps_boxI 3 _ _ (.agg (colD p1)) (colD p1) rfl (colD_one _) rfl rfl rfl rfl rfl ?_
 refine kN 2 rfl ?_
 refine kO (fun s6 => [(2, .d (.pv (colD p0) 0)), (3, .d (.pv (colD p1) 0))]) (fun s6 => []) h (fun os6 h hks6 => ?_) (fun s6 h => ?_)
 ·refine kB (fun s4 => [(2, .d (.pv (colD p0) 0)), (3, .d (.pv (colD p1) 0)), (13, bV s4)]) (fun s4 => []) h (fun s4 h => ?_) (fun s4 h => ?_)
  ·refine (ACode_region ?_)
   obtain ⟨r1, hr1, h⟩ := bindO h
   refine kC [] 8 (bV r1) [] rfl Tryz.call36 rfl rfl (impl_Colouring_isColouring_ac k p0 _ hr1) rfl ?_
   refine AOps_q 9 _ rfl rfl rfl (QOp_not _ _ _ rfl rfl) ?_
   refine kM 1 rfl ?_
   refine AOps_case 10 _ rfl (fun hb2 => ?_) (fun hb2 => ?_)
   ·have h := iteT hb2 h
    refine AOps_skip 11 rfl rfl rfl ?_
    refine AOps_skip 12 rfl rfl rfl ?_
    refine kN 1 rfl ?_
    cases h
    exact Weak_keep 0 hm [2, 3, 13] [] _ _ rfl rfl rfl
   have h := iteF hb2 h
   obtain ⟨r3, hr3, h⟩ := bindO h
   refine kC [] 11 (bV r3) [] rfl Tryz.call36 rfl rfl (impl_Colouring_isColouring_ac k p1 _ hr3) rfl ?_
   refine AOps_q 12 _ rfl rfl rfl (QOp_not _ _ _ rfl rfl) ?_
   refine kN 1 rfl ?_
   cases h
   exact Weak_keep 0 hm [2, 3, 13] [] _ _ rfl rfl rfl
  refine kI h rfl (fun h _ => ?_) (fun h _ => ?_)
  ·refine kR ?_
   refine kN 2 rfl ?_
   refine ACode_ret ?_
   cases h
   have h := hks6
   cases h
   exact ⟨_, _, fun r a w h => ⟨r, h⟩, _, _, [], _, (.cons (ResV_tmp _ _ rfl) (.cons (ResV_tmp _ _ rfl) .nil)), rfl, rfl, rfl, rfl, rfl⟩
  refine ACode_skip ?_
  cases h
  exact ⟨_, rfl, Weak_keep 0 hm [2, 3] [] _ _ rfl rfl rfl⟩
 refine kR ?_
 obtain ⟨r7, hr7, h⟩ := bindO h
 refine kC [] 15 (.tup [.vec 0 0, bV r7.2]) [.vec 0 (intsD r7.1)] rfl Tryz.call37 rfl rfl (impl_Colouring_renumbering_ac k p0 p1 _ hr7) rfl ?_
 refine kN 5 rfl ?_
 refine kR ?_
 refine kN 3 rfl ?_
 refine ACode_ret ?_
 cases h
 exact ⟨_, _, fun r a w h => ⟨r, h⟩, _, _, [], _, (.cons (ResV_tmp _ _ rfl) (.cons (ResV_tmp _ _ rfl) .nil)), rfl, rfl, rfl, rfl, rfl⟩

-- loop.example/g01362/spec.AreIsomorphic
def spec_AreIsomorphic (k : Nat) (p0 : Col) (p1 : Col) : Option (Bool × Int) :=
 (((spec_l01Is k p0).bind fun r1 => (if !r1 then some true else (spec_l01Is k p1).bind fun r3 => some (!r3)) : Option (Bool)).bind fun s4 => (if s4 then some (.inr (false, 1)) else some (.inl ())) : Option (Sum (Unit) (Bool × Int))).bind fun os6 => (match os6 with | .inl s6 => (spec_l06Between k p0 p1 1).bind fun r7 => some (decide (0 < r7.count), 0) | .inr rr => some rr)
set_option maxRecDepth 100000 in
theorem spec_AreIsomorphic_ac (k : Nat) (p0 : Col) (p1 : Col) (r : Bool × Int) (h : spec_AreIsomorphic k p0 p1 = some r) : AC Tryz.prog 11 [.d (.agg (colD p0)), .d (.agg (colD p1))] [] (fun res H' => res = [bV r.1, iV r.2] ∧ H' = []) := by
 refine AC_of_body true Tryz.func11 rfl Tryz.ntmps11 (rvs := [.tmp 4, .tmp 5]) rfl rfl (fun G hG => ?_)
 have hm : G.H.length = 0 := by rw [hG]; rfl
 have hz : zeroG G.H = true := by rw [hG]; rfl
 unfold spec_AreIsomorphic at h
 refine kR ?_
 refine AOps_boxI 2 _ _ (.agg (colD p0)) (colD p0) rfl (colD_one _) rfl rfl rfl rfl rfl ?_
 refine AOps_boxI 3 _ _ (.agg (colD p1)) (colD p1) rfl (colD_one _) rfl rfl rfl rfl rfl ?_
 refine kN 2 rfl ?_
 refine kO (fun s6 => [(2, .d (.pv (colD p0) 0)), (3, .d (.pv (colD p1) 0))]) (fun s6 => []) h (fun os6 h hks6 => ?_) (fun s6 h => ?_)
 ·refine kB (fun s4 => [(2, .d (.pv (colD p0) 0)), (3, .d (.pv (colD p1) 0)), (13, bV s4)]) (fun s4 => []) h (fun s4 h => ?_) (fun s4 h => ?_)
  ·refine (ACode_region ?_)
   refine AOps_q 6 _ rfl rfl rfl (QOp_loadN_pv _ _ _ _ _ _ rfl Tryz.isAgg26 Tryz.sizeOf26 rfl (colD_all _) (colD_length _)) ?_
   obtain ⟨r1, hr1, h⟩ := bindO h
   refine kC [] 7 (bV r1) [] rfl Tryz.call38 rfl rfl (spec_l01Is_ac k p0 _ hr1) rfl ?_
   refine AOps_q 8 _ rfl rfl rfl (QOp_not _ _ _ rfl rfl) ?_
   refine kM 1 rfl ?_
   refine AOps_case 9 _ rfl (fun hb2 => ?_) (fun hb2 => ?_)
   ·have h := iteT hb2 h
    refine AOps_skip 10 rfl rfl rfl ?_
    refine AOps_skip 11 rfl rfl rfl ?_
    refine AOps_skip 12 rfl rfl rfl ?_
    refine kN 1 rfl ?_
    cases h
    exact Weak_keep 0 hm [2, 3, 13] [] _ _ rfl rfl rfl
   have h := iteF hb2 h
   refine AOps_q 10 _ rfl rfl rfl (QOp_loadN_pv _ _ _ _ _ _ rfl Tryz.isAgg26 Tryz.sizeOf26 rfl (colD_all _) (colD_length _)) ?_
   obtain ⟨r3, hr3, h⟩ := bindO h
   refine kC [] 11 (bV r3) [] rfl Tryz.call38 rfl rfl (spec_l01Is_ac k p1 _ hr3) rfl ?_
   refine AOps_q 12 _ rfl rfl rfl (QOp_not _ _ _ rfl rfl) ?_
   refine kN 1 rfl ?_
   cases h
   exact Weak_keep 0 hm [2, 3, 13] [] _ _ rfl rfl rfl
  refine kI h rfl (fun h _ => ?_) (fun h _ => ?_)
  ·refine kR ?_
   refine kN 2 rfl ?_
   refine ACode_ret ?_
   cases h
   have h := hks6
   cases h
   exact ⟨_, _, fun r a w h => ⟨r, h⟩, _, _, [], _, (.cons (ResV_tmp _ _ rfl) (.cons (ResV_tmp _ _ rfl) .nil)), rfl, rfl, rfl, rfl, rfl⟩
  refine ACode_skip ?_
  cases h
  exact ⟨_, rfl, Weak_keep 0 hm [2, 3] [] _ _ rfl rfl rfl⟩
 refine kR ?_
 refine AOps_q 14 _ rfl rfl rfl (QOp_loadN_pv _ _ _ _ _ _ rfl Tryz.isAgg26 Tryz.sizeOf26 rfl (colD_all _) (colD_length _)) ?_
 refine AOps_q 15 _ rfl rfl rfl (QOp_loadN_pv _ _ _ _ _ _ rfl Tryz.isAgg26 Tryz.sizeOf26 rfl (colD_all _) (colD_length _)) ?_
 obtain ⟨r7, hr7, h⟩ := bindO h
 refine kC [] 16 (.ptr 0 0) [.box (seaD r7)] rfl Tryz.call39 rfl rfl (spec_l06Between_ac k p0 p1 1 _ hr7) rfl ?_
 refine AOps_q 17 _ rfl rfl rfl (QOp_nilCheck_ptr _ _ _ _ rfl rfl rfl rfl) ?_
 refine AOps_q 18 _ rfl rfl rfl (QOp_fieldAddr_ptr _ _ _ _ _ _ 279 _ _ rfl Tryz.underlying62 rfl _ Tryz.sizeOf2 rfl rfl rfl rfl) ?_
 refine AOps_q 19 _ rfl rfl rfl (QOp_load_ptr _ _ _ _ _ _ rfl Tryz.isAgg2 rfl rfl (seaD_c _)) ?_
 refine AOps_q 20 _ rfl rfl rfl (QOp_gtr _ _ _ _ _ _ _ rfl rfl rfl) ?_
 refine kN 2 rfl ?_
 refine ACode_ret ?_
 cases h
 exact ⟨_, _, fun r a w h => ⟨r, h⟩, _, _, [], _, (.cons (ResV_tmp _ _ rfl) (.cons (ResV_tmp _ _ rfl) .nil)), rfl, rfl, rfl, rfl, rfl⟩

-- loop.example/g01362/impl.size[int64]
def impl_size (p0 : List Int) : Int :=
 (p0.length : Int)
set_option maxRecDepth 100000 in
theorem impl_size_ac (p0 : List Int) : AC Tryz.prog 93 [.d (.sl none (intsD p0))] [] (fun res H' => res = [iV (impl_size p0)] ∧ H' = []) := by
 refine AC_of_body true Tryz.func93 rfl Tryz.ntmps93 (rvs := [.tmp 2]) rfl rfl (fun G hG => ?_)
 have hm : G.H.length = 0 := by rw [hG]; rfl
 have hz : zeroG G.H = true := by rw [hG]; rfl
 obtain ⟨r, h⟩ : ∃ r, impl_size p0 = r := ⟨_, rfl⟩
 rw [h]
 unfold impl_size at h
 refine kR ?_
 refine kN 1 rfl ?_
 refine kR ?_
 refine kM 1 rfl ?_
 refine AOps_q 4 _ rfl rfl rfl (QOp_len_sl _ _ _ _ _ _ _ (intsD_length _) rfl rfl rfl rfl Tryz.underlying29 rfl) ?_
 refine kN 1 rfl ?_
 refine ACode_ret ?_
 cases h
 exact ⟨_, _, fun r a w h => ⟨r, h⟩, _, _, [], _, (.cons (ResV_tmp _ _ rfl) .nil), rfl, rfl, rfl, rfl, rfl⟩

-- slices.Index[[]int64,int64]
def slices_Index_l0 (p0 : List Int) (p1 : Int) : Nat → Int → Option (Sum (Unit) (Int))
 | 0, _ => none
 | k0 + 1, x1 => (if decide (x1 < (p0.length : Int)) then (if 0 ≤ x1 ∧ x1 < (p0.length : Int) then (if decide (p1 = (p0.getD x1.toNat 0)) then some (.inr x1) else slices_Index_l0 p0 p1 k0 (w64 (x1 + 1))) else none) else some (.inl ()))
def slices_Index (k : Nat) (p0 : List Int) (p1 : Int) : Option (Int) :=
 (slices_Index_l0 p0 p1 k 0 : Option (Sum (Unit) (Int))).bind fun os5 => (match os5 with | .inl s5 => some (-1) | .inr rr => some rr)
set_option maxRecDepth 100000 in
theorem slices_Index_ac (k : Nat) (p0 : List Int) (p1 : Int) (r : Int) (h : slices_Index k p0 p1 = some r) : AC Tryz.prog 118 [.d (.sl none (intsD p0)), iV p1] [] (fun res H' => res = [iV r] ∧ H' = []) := by
 refine AC_of_body true Tryz.func118 rfl Tryz.ntmps118 (rvs := [.tmp 4]) rfl rfl (fun G hG => ?_)
 have hm : G.H.length = 0 := by rw [hG]; rfl
 have hz : zeroG G.H = true := by rw [hG]; rfl
 unfold slices_Index at h
 refine kR ?_
 refine kN 1 rfl ?_
 refine kO (fun s5 => []) (fun s5 => []) h (fun os5 h hks5 => ?_) (fun s5 h => ?_)
 ·refine kR ?_
  refine kM 1 rfl ?_
  refine AOps_q 7 _ rfl rfl rfl (QOp_len_sl _ _ _ _ _ _ _ (intsD_length _) rfl rfl rfl rfl Tryz.underlying29 rfl) ?_
  refine kN 1 rfl ?_
  refine ACode_block ?_
  refine ACode_loopW (fun k0 E H => ∃ (x1 : Int), E = [(0, .d (.sl none (intsD p0))), (1, iV p1), (7, iV (p0.length : Int)), (8, iV x1)] ∧ H = [] ∧ slices_Index_l0 p0 p1 k0 x1 = some os5) k _ _ (Weak_keep 0 hm [0, 1, 7, 8] [] _ _ rfl rfl rfl) ⟨_, rfl, rfl, h⟩ ?_
  clear h
  rintro k0 E H ⟨x1, rfl, rfl, h⟩
  cases k0 with
  | zero => cases (show (none : Option (Sum (Unit) (Int))) = some _ from h)
  | succ k0 =>
   rw [slices_Index_l0] at h
   refine kR ?_
   refine AOps_q 9 _ rfl rfl rfl (QOp_lss _ _ _ _ _ _ _ rfl rfl rfl) ?_
   refine AOps_nil ?_
   refine ACode_seq ?_
   refine kI h rfl (fun h _ => ?_) (fun h _ => ?_)
   ·refine ACode_skip ?_
    refine ACode_seq ?_
    refine ACode_block ?_
    refine kR ?_
    refine kN 2 rfl ?_
    refine kR ?_
    refine kM 3 rfl ?_
    obtain ⟨hc3, h⟩ := guardO h
    refine AOps_q 14 _ rfl rfl rfl (QOp_indexAddr_sl _ _ _ _ _ _ _ _ rfl Tryz.underlying29 Tryz.sizeOf2 hc3.1 (by rw [intsD_length]; exact hc3.2) rfl rfl) ?_
    refine AOps_q 15 _ rfl rfl rfl (QOp_load_pv _ _ _ _ _ rfl Tryz.isAgg2 rfl (intsD_get _ _ 0 (by omega))) ?_
    refine AOps_q 16 _ rfl rfl rfl (QOp_eql _ _ _ _ _ _ _ rfl rfl rfl) ?_
    refine AOps_nil ?_
    refine kI h rfl (fun h _ => ?_) (fun h _ => ?_)
    ·refine kR ?_
     refine kN 2 rfl ?_
     refine ACode_ret ?_
     cases h
     have h := hks5
     cases h
     exact ⟨_, _, fun r a w h => ⟨r, h⟩, _, _, [], _, (.cons (ResV_tmp _ _ rfl) .nil), rfl, rfl, rfl, rfl, rfl⟩
    refine ACode_skip ?_
    refine (ACode_region ?_)
    refine AOps_q 18 _ rfl rfl rfl (QOp_add _ _ _ _ _ _ _ rfl rfl rfl) ?_
    refine kN 1 rfl ?_
    exact ⟨k0, _, _, Nat.lt_succ_self _, Weak_keep 0 hm [0, 1, 7, 8] [] _ _ rfl rfl rfl, _, rfl, rfl, h⟩
   refine ACode_exit ?_
   cases h
   exact ⟨_, rfl, Weak_keep 0 hm [] [] _ _ rfl rfl rfl⟩
 refine kR ?_
 refine kN 1 rfl ?_
 refine ACode_ret ?_
 cases h
 exact ⟨_, _, fun r a w h => ⟨r, h⟩, _, _, [], _, (.cons (ResV_tmp _ _ rfl) .nil), rfl, rfl, rfl, rfl, rfl⟩

-- slices.Contains[[]int64,int64]
def slices_Contains (k : Nat) (p0 : List Int) (p1 : Int) : Option (Bool) :=
 (slices_Index k p0 p1).bind fun r1 => some (decide (0 ≤ r1))
set_option maxRecDepth 100000 in
theorem slices_Contains_ac (k : Nat) (p0 : List Int) (p1 : Int) (r : Bool) (h : slices_Contains k p0 p1 = some r) : AC Tryz.prog 101 [.d (.sl none (intsD p0)), iV p1] [] (fun res H' => res = [bV r] ∧ H' = []) := by
 refine AC_of_body true Tryz.func101 rfl Tryz.ntmps101 (rvs := [.tmp 4]) rfl rfl (fun G hG => ?_)
 have hm : G.H.length = 0 := by rw [hG]; rfl
 have hz : zeroG G.H = true := by rw [hG]; rfl
 unfold slices_Contains at h
 refine kR ?_
 refine kN 1 rfl ?_
 refine kR ?_
 refine kM 2 rfl ?_
 obtain ⟨r1, hr1, h⟩ := bindO h
 refine kC [] 7 (iV r1) [] rfl Tryz.call118 rfl rfl (slices_Index_ac k p0 p1 _ hr1) rfl ?_
 refine AOps_q 8 _ rfl rfl rfl (QOp_geq _ _ _ _ _ _ _ rfl rfl rfl) ?_
 refine kN 1 rfl ?_
 refine ACode_ret ?_
 cases h
 exact ⟨_, _, fun r a w h => ⟨r, h⟩, _, _, [], _, (.cons (ResV_tmp _ _ rfl) .nil), rfl, rfl, rfl, rfl, rfl⟩

-- loop.example/g01362/impl.orders
def impl_orders_l0 (k : Nat) (self : Int → (List Int) → Option (List (List Int))) (p0 : Int) (p1 : List Int) : Nat → Int → (List (List Int)) → Option (List (List Int))
 | 0, _, _ => none
 | k0 + 1, x3, x4 => (if decide (x3 < p0) then ((slices_Contains k p1 x3).bind fun r6 => (if !r6 then (if p1.isEmpty then (if ([x3]).length ≤ 1099511627776 ∧ ([x3]).length ≠ 0 then (self p0 ([x3])).bind fun r11 => (if x4.length + r11.length ≤ 1099511627776 then some (x4 ++ r11) else none) else none) else (cloneA p1).bind fun r13 => (if r13.length + ([x3]).length ≤ 1099511627776 then (self p0 (r13 ++ ([x3]))).bind fun r15 => (if x4.length + r15.length ≤ 1099511627776 then some (x4 ++ r15) else none) else none)) else some x4) : Option (List (List Int))).bind fun s17 => impl_orders_l0 k self p0 p1 k0 (w64 (x3 + 1)) s17 else some x4)
def impl_orders_body (self : Int → (List Int) → Option (List (List Int))) (k : Nat) (p0 : Int) (p1 : List Int) : Option (List (List Int)) :=
 (if decide ((impl_size p1) = p0) then some ([p1]) else (impl_orders_l0 k self p0 p1 k 0 ([] : List (List Int)) : Option (List (List Int))).bind fun s18 => some s18)
def impl_orders : Nat → Int → (List Int) → Option (List (List Int))
 | 0, _, _ => none
 | k + 1, p0, p1 => impl_orders_body (impl_orders k) k p0 p1
set_option maxRecDepth 100000 in
theorem impl_orders_ac (k : Nat) (p0 : Int) (p1 : List Int) (r : List (List Int)) (h : impl_orders k p0 p1 = some r) : AC Tryz.prog 62 [iV p0, .d (.sl none (intsD p1))] [] (fun res H' => res = [.d (.sl none (rowsD r))] ∧ H' = []) := by
 induction k generalizing p0 p1 r with
 | zero => simp [impl_orders] at h
 | succ k ih =>
  rw [impl_orders] at h
  obtain ⟨self, hself, hk⟩ : ∃ self : Int → (List Int) → Option (List (List Int)), (∀ (p0 : Int) (p1 : List Int) (r : List (List Int)), self p0 p1 = some r → AC Tryz.prog 62 [iV p0, .d (.sl none (intsD p1))] [] (fun res H' => res = [.d (.sl none (rowsD r))] ∧ H' = [])) ∧ impl_orders k = self := ⟨impl_orders k, fun p0 p1 r h => ih p0 p1 r h, rfl⟩
  rw [hk] at h
  clear ih hk
  refine AC_of_body true Tryz.func62 rfl Tryz.ntmps62 (rvs := [.tmp 4]) rfl rfl (fun G hG => ?_)
  have hm : G.H.length = 0 := by rw [hG]; rfl
  have hz : zeroG G.H = true := by rw [hG]; rfl
  unfold impl_orders_body at h
  refine kR ?_
  refine kN 1 rfl ?_
  refine ACode_seq ?_
  refine kR ?_
  refine kM 1 rfl ?_
  refine kC [] 8 (iV (impl_size p1)) [] rfl Tryz.call93 rfl rfl (impl_size_ac p1) rfl ?_
  refine kM 1 rfl ?_
  refine AOps_q 10 _ rfl rfl rfl (QOp_eql _ _ _ _ _ _ _ rfl rfl rfl) ?_
  refine AOps_nil ?_
  refine kI h rfl (fun h _ => ?_) (fun h _ => ?_)
  ·refine kR ?_
   refine kM 1 rfl ?_
   refine AOps_buildSlice 12 _ _ _ [_] (rowsD ([p1])) _ rfl rfl rfl rfl rfl (by decide) Tryz.underlying45 Tryz.sizeOf29 (zero_of Tryz.typeInfo29 rfl) rfl rfl (rowsD_one _) ?_
   refine kN 1 rfl ?_
   refine ACode_ret ?_
   cases h
   exact ⟨_, _, fun r a w h => ⟨r, h⟩, _, _, [], _, (.cons (ResV_tmp _ _ rfl) .nil), rfl, rfl, rfl, rfl, rfl⟩
  refine ACode_skip ?_
  refine kR ?_
  refine AOps_buildSlice 13 _ _ _ [] (rowsD ([] : List (List Int))) _ rfl rfl rfl rfl rfl (by decide) Tryz.underlying45 Tryz.sizeOf29 (zero_of Tryz.typeInfo29 rfl) rfl rfl (rowsD_one _) ?_
  refine kN 1 rfl ?_
  refine kB (fun s18 => [(5, .vec 0 0)]) (fun s18 => [.vec 0 (rowsD s18)]) h (fun s18 h => ?_) (fun s18 h => ?_)
  ·refine kR ?_
   refine kN 2 rfl ?_
   refine ACode_block ?_
   refine ACode_loopW (fun k0 E H => ∃ (x3 : Int) (x4 : List (List Int)), E = [(0, iV p0), (1, .d (.sl none (intsD p1))), (5, .vec 0 0), (14, iV p0), (15, iV x3)] ∧ H = [.vec 0 (rowsD x4)] ∧ impl_orders_l0 k self p0 p1 k0 x3 x4 = some s18) k _ _ (Weak_keep 0 hm [0, 1, 5, 14, 15] [0] _ _ rfl rfl rfl) ⟨_, _, rfl, rfl, h⟩ ?_
   clear h
   rintro k0 E H ⟨x3, x4, rfl, rfl, h⟩
   cases k0 with
   | zero => cases (show (none : Option (List (List Int))) = some _ from h)
   | succ k0 =>
    rw [impl_orders_l0] at h
    refine kR ?_
    refine AOps_q 16 _ rfl rfl rfl (QOp_lss _ _ _ _ _ _ _ rfl rfl rfl) ?_
    refine AOps_nil ?_
    refine ACode_seq ?_
    refine kI h rfl (fun h _ => ?_) (fun h _ => ?_)
    ·refine ACode_skip ?_
     refine kB (fun s17 => [(0, iV p0), (1, .d (.sl none (intsD p1))), (5, .vec 0 0), (14, iV p0), (15, iV x3)]) (fun s17 => [.vec 0 (rowsD s17)]) h (fun s17 h => ?_) (fun s17 h => ?_)
     ·refine ACode_block ?_
      refine kR ?_
      refine kN 2 rfl ?_
      refine kR ?_
      refine kM 2 rfl ?_
      obtain ⟨r6, hr6, h⟩ := bindO h
      refine kC [] 20 (bV r6) [.vec 0 (rowsD x4)] rfl Tryz.call101 rfl rfl (slices_Contains_ac k p1 x3 _ hr6) rfl ?_
      refine AOps_q 21 _ rfl rfl rfl (QOp_not _ _ _ rfl rfl) ?_
      refine AOps_nil ?_
      refine kI h rfl (fun h _ => ?_) (fun h _ => ?_)
      ·refine (ACode_region ?_)
       refine kM 3 rfl ?_
       refine bsplit (p1.isEmpty) (fun hb8 => ?_) (fun hb8 => ?_)
       ·have h := iteT hb8 h
        refine kC [] 25 (.d (.se none)) [.vec 0 (rowsD x4)] rfl Tryz.call82 rfl rfl (cloneB_ac p1 hb8) rfl ?_
        refine kM 1 rfl ?_
        refine AOps_buildSlice 27 _ _ _ [_] (intsD ([x3])) _ rfl rfl rfl rfl rfl (by decide) Tryz.underlying29 Tryz.sizeOf2 (zero_of Tryz.typeInfo2 rfl) rfl rfl (intsD_one _) ?_
        obtain ⟨hc10, h⟩ := guardO h
        refine AOps_append0 28 _ _ _ _ _ _ _ _ _ _ rfl rfl rfl rfl rfl rfl rfl Tryz.underlying29 Tryz.type2 rfl rfl rfl (by decide) rfl rfl rfl (intsD_one _) (by rw [intsD_length]; exact hc10.1) (by rw [intsD_length]; exact hc10.2) ?_
        refine AOps_freezeL [28] 2 0 _ (allc (rfl) (fun _ h => nomatch h)) rfl ?_
        obtain ⟨r11, hr11, h⟩ := bindO h
        refine kC [] 29 (.d (.sl none (rowsD r11))) [.vec 0 (rowsD x4), .vec 0 (intsD ([x3])), .gone] rfl Tryz.call62 rfl rfl (hself p0 ([x3]) _ hr11) rfl ?_
        obtain ⟨hc12, h⟩ := guardO h
        refine AOps_append 30 _ _ _ _ _ _ _ _ _ _ _ _ rfl rfl rfl rfl rfl rfl rfl Tryz.underlying45 Tryz.type29 rfl rfl rfl (by decide) rfl rfl rfl rfl (rowsD_one _) (by rw [rowsD_length, rowsD_length]; exact hc12) ?_
        rw [rowsD_app]
        refine kN 1 rfl ?_
        cases h
        exact Weak_trans (Weak_keep 0 hm [0, 1, 5, 14, 15] [0] _ _ rfl rfl rfl) (Weak_reset 0 hm hz [0, 1, 5, 14, 15] _ _ rfl rfl)
       have h := iteF hb8 h
       obtain ⟨r13, hr13, h⟩ := bindO h
       refine kC [] 25 (.vec 1 0) [.vec 0 (rowsD x4), .vec 0 (intsD r13)] rfl Tryz.call82 rfl rfl (cloneA_ac p1 _ hb8 hr13) rfl ?_
       refine kM 1 rfl ?_
       refine AOps_buildSlice 27 _ _ _ [_] (intsD ([x3])) _ rfl rfl rfl rfl rfl (by decide) Tryz.underlying29 Tryz.sizeOf2 (zero_of Tryz.typeInfo2 rfl) rfl rfl (intsD_one _) ?_
       obtain ⟨hc14, h⟩ := guardO h
       refine AOps_append 28 _ _ _ _ _ _ _ _ _ _ _ _ rfl rfl rfl rfl rfl rfl rfl Tryz.underlying29 Tryz.type2 rfl rfl rfl (by decide) rfl rfl rfl rfl (intsD_one _) (by rw [intsD_length, intsD_length]; exact hc14) ?_
       rw [intsD_app]
       refine AOps_freezeL [28] 1 1 _ (allc (rfl) (fun _ h => nomatch h)) rfl ?_
       obtain ⟨r15, hr15, h⟩ := bindO h
       refine kC [] 29 (.d (.sl none (rowsD r15))) [.vec 0 (rowsD x4), .gone, .vec 0 (intsD ([x3]))] rfl Tryz.call62 rfl rfl (hself p0 (r13 ++ ([x3])) _ hr15) rfl ?_
       obtain ⟨hc16, h⟩ := guardO h
       refine AOps_append 30 _ _ _ _ _ _ _ _ _ _ _ _ rfl rfl rfl rfl rfl rfl rfl Tryz.underlying45 Tryz.type29 rfl rfl rfl (by decide) rfl rfl rfl rfl (rowsD_one _) (by rw [rowsD_length, rowsD_length]; exact hc16) ?_
       rw [rowsD_app]
       refine kN 1 rfl ?_
       cases h
       exact Weak_trans (Weak_keep 0 hm [0, 1, 5, 14, 15] [0] _ _ rfl rfl rfl) (Weak_reset 0 hm hz [0, 1, 5, 14, 15] _ _ rfl rfl)
      refine ACode_skip ?_
      cases h
      exact Weak_keep 0 hm [0, 1, 5, 14, 15] [0] _ _ rfl rfl rfl
     refine (ACode_region ?_)
     refine AOps_q 31 _ rfl rfl rfl (QOp_add _ _ _ _ _ _ _ rfl rfl rfl) ?_
     refine kN 1 rfl ?_
     exact ⟨k0, _, _, Nat.lt_succ_self _, Weak_keep 0 hm [0, 1, 5, 14, 15] [0] _ _ rfl rfl rfl, _, _, rfl, rfl, h⟩
    refine ACode_exit ?_
    cases h
    exact Weak_keep 0 hm [5] [0] _ _ rfl rfl rfl
  refine kR ?_
  refine kN 2 rfl ?_
  refine ACode_ret ?_
  cases h
  exact ⟨_, _, fun r a w h => ⟨r, h⟩, _, _, [], _, (.cons (ResV_tmp _ _ rfl) .nil), rfl, rfl, rfl, rfl, rfl⟩

-- (*loop.example/g01362/impl.Colouring).put
def impl_Colouring_put (p0 : Col) (p1 : Int) (p2 : Int) (p3 : Int) : Option (Col) :=
 (if 0 ≤ (impl_number p1 p2) ∧ (impl_number p1 p2) < 136 then some (p0.set ((impl_number p1 p2).toNat) (toByte p3)) else none)
set_option maxRecDepth 100000 in
theorem impl_Colouring_put_ac (p0 : Col) (p1 : Int) (p2 : Int) (p3 : Int) (r : Col) (h : impl_Colouring_put p0 p1 p2 p3 = some r) : AC Tryz.prog 94 [.ptr 0 0, iV p1, iV p2, iV p3] [.box (colD p0)] (fun res H' => res = [] ∧ H' = [.box (colD r)]) := by
 refine AC_of_body true Tryz.func94 rfl Tryz.ntmps94 (rvs := []) rfl rfl (fun G hG => ?_)
 have hm : G.H.length = 1 := by rw [hG]; rfl
 have hz : zeroG G.H = true := by rw [hG]; rfl
 unfold impl_Colouring_put at h
 refine (ACode_last (l := [_, _, _, _, _, _, _, _, _]) mixed (by kernel_rfl) (by kernel_rfl) ?_)
 refine kQ 3 rfl ?_
 refine AQ_call 11 _ _ _ _ _ _ _ _ _ rfl rfl rfl rfl rfl rfl rfl Tryz.call109 rfl rfl rfl (impl_number_ac p1 p2) ?_
 refine kQ 1 rfl ?_
 refine AQ_q 13 _ rfl rfl rfl (QOp_toByte _ _ _ _ _ rfl rfl Tryz.underlying5 rfl) ?_
 refine AQ_q 14 _ rfl rfl rfl (QOp_nilCheck_ptr _ _ _ _ rfl rfl rfl rfl) ?_
 refine AQ_q 15 _ rfl rfl rfl (QOp_fieldAddr_ptr _ _ _ _ _ _ 2 _ _ rfl Tryz.underlying26 rfl _ Tryz.sizeOf24 rfl rfl rfl rfl) ?_
 obtain ⟨hc2, h⟩ := guardO h
 refine AQ_q 16 _ rfl rfl rfl (QOp_indexAddrA_ptr _ _ _ _ _ _ _ _ _ _ rfl Tryz.underlying24 Tryz.sizeOf5 hc2.1 hc2.2 rfl rfl rfl rfl) ?_
 refine AQ_nil ?_
 refine AOps_store1 _ _ _ _ _ _ (colD (p0.set ((impl_number p1 p2).toNat) (toByte p3))) _ rfl rfl rfl rfl rfl rfl rfl Tryz.sizeOf5 (by rw [colD_length]; omega) (colD_setE p0 ((impl_number p1 p2).toNat) (toByte p3)) ?_
 refine AOps_nil ?_
 cases h
 exact ⟨_, _, fun r a w h => ⟨r, h⟩, _, _, [], _, .nil, rfl, rfl, rfl, rfl, rfl⟩

-- loop.example/g01362/impl.made
def impl_made_l1 (p2 : Int → Int → Option (Int)) (x1 : Int) : Nat → Int → Col → Option (Col)
 | 0, _, _ => none
 | k1 + 1, x4, x5 => (if decide (x4 < x1) then (p2 x4 x1).bind fun r7 => (impl_Colouring_put x5 x4 x1 r7).bind fun r8 => impl_made_l1 p2 x1 k1 (w64 (x4 + 1)) r8 else some x5)
def impl_made_l0 (k : Nat) (p0 : Int) (p2 : Int → Int → Option (Int)) : Nat → Int → Col → Option (Col)
 | 0, _, _ => none
 | k0 + 1, x1, x2 => (if decide (x1 < p0) then (impl_made_l1 p2 x1 k 0 x2 : Option (Col)).bind fun s9 => impl_made_l0 k p0 p2 k0 (w64 (x1 + 1)) s9 else some x2)
def impl_made (k : Nat) (p0 : Int) (p1 : Int) (p2 : Int → Int → Option (Int)) : Option (Col) :=
 (impl_made_l0 k p0 p2 k 0 (⟨p0, p1, B136.zero⟩ : Col) : Option (Col)).bind fun s10 => some s10
set_option maxRecDepth 100000 in
theorem impl_made_ac (k : Nat) (p0 : Int) (p1 : Int) (p2 : Int → Int → Option (Int)) (g_p2 : FuncId) (c_p2 : List D) (hg_p2 : ∀ args w, (callFunc g_p2 args).run Tryz.prog w = .ok (.enter g_p2 args) w) (hf_p2 : ∀ (a0 : Int) (a1 : Int) (r : Int), p2 a0 a1 = some r → AC Tryz.prog g_p2 ([iV a0, iV a1] ++ c_p2.map AV.d) [] (fun res H' => res = [iV r] ∧ H' = [])) (r : Col) (h : impl_made k p0 p1 p2 = some r) : AC Tryz.prog 96 [iV p0, iV p1, .d (.clo g_p2 c_p2)] [] (fun res H' => res = [.d (.agg (colD r))] ∧ H' = []) := by
 refine AC_of_body true Tryz.func96 rfl Tryz.ntmps96 (rvs := [.cell 6 26]) rfl rfl (fun G hG => ?_)
 have hm : G.H.length = 0 := by rw [hG]; rfl
 have hz : zeroG G.H = true := by rw [hG]; rfl
 unfold impl_made at h
 refine kR ?_
 refine AOps_alloc 6 _ _ (colD Col.zero) (zero_of Tryz.typeInfo26 rfl) (by rfl) rfl rfl rfl rfl ?_
 refine AOps_nil ?_
 refine kR ?_
 refine kM 2 rfl ?_
 refine AOps_q 12 _ rfl rfl rfl (QOp_build _ _ [_, _] [0, 1] [iD p0, iD p1] _ (colD Col.zero) (colD (⟨p0, p1, B136.zero⟩ : Col)) [(0, 1), (1, 1), (2, 136)] rfl rfl Tryz.underlying26 (zero_of Tryz.typeInfo26 rfl) (fun w => by simp [Tryz.sizeOf2, Tryz.sizeOf2, Tryz.sizeOf24]) rfl (by rfl) (by rfl) (allc (ok1 rfl) (allc (ok1 rfl) (fun _ h => nomatch h)))) ?_
 refine AOps_alloc 7 _ _ (colD Col.zero) (zero_of Tryz.typeInfo26 rfl) (by rfl) rfl rfl rfl rfl ?_
 refine AOps_store _ _ _ _ _ _ (colD _) _ _ rfl rfl rfl rfl rfl rfl rfl (colD_one _) (by rw [colD_length]; exact Tryz.sizeOf26) (by rw [colD_length, colD_length]; decide) (colD_whole _ _) ?_
 refine AOps_nil ?_
 refine kB (fun s10 => [(6, .ptr 0 0), (7, .ptr 1 0)]) (fun s10 => [.box (colD Col.zero), .box (colD s10)]) h (fun s10 h => ?_) (fun s10 h => ?_)
 ·refine kR ?_
  refine kN 2 rfl ?_
  refine ACode_block ?_
  refine ACode_loopW (fun k0 E H => ∃ (x1 : Int) (x2 : Col), E = [(2, .d (.clo g_p2 c_p2)), (6, .ptr 0 0), (7, .ptr 1 0), (13, iV p0), (14, iV x1)] ∧ H = [.box (colD Col.zero), .box (colD x2)] ∧ impl_made_l0 k p0 p2 k0 x1 x2 = some s10) k _ _ (Weak_keep 0 hm [2, 6, 7, 13, 14] [0, 1] _ _ rfl rfl rfl) ⟨_, _, rfl, rfl, h⟩ ?_
  clear h
  rintro k0 E H ⟨x1, x2, rfl, rfl, h⟩
  cases k0 with
  | zero => cases (show (none : Option (Col)) = some _ from h)
  | succ k0 =>
   rw [impl_made_l0] at h
   refine kR ?_
   refine AOps_q 15 _ rfl rfl rfl (QOp_lss _ _ _ _ _ _ _ rfl rfl rfl) ?_
   refine AOps_nil ?_
   refine ACode_seq ?_
   refine kI h rfl (fun h _ => ?_) (fun h _ => ?_)
   ·refine ACode_skip ?_
    refine kB (fun s9 => [(2, .d (.clo g_p2 c_p2)), (6, .ptr 0 0), (7, .ptr 1 0), (13, iV p0), (14, iV x1)]) (fun s9 => [.box (colD Col.zero), .box (colD s9)]) h (fun s9 h => ?_) (fun s9 h => ?_)
    ·refine ACode_block ?_
     refine kR ?_
     refine kN 2 rfl ?_
     refine kR ?_
     refine kN 2 rfl ?_
     refine ACode_block ?_
     refine ACode_loopW (fun k1 E H => ∃ (x4 : Int) (x5 : Col), E = [(2, .d (.clo g_p2 c_p2)), (6, .ptr 0 0), (7, .ptr 1 0), (8, iV x1), (13, iV p0), (14, iV x1), (17, iV x1), (18, iV x4)] ∧ H = [.box (colD Col.zero), .box (colD x5)] ∧ impl_made_l1 p2 x1 k1 x4 x5 = some s9) k _ _ (Weak_keep 0 hm [2, 6, 7, 8, 13, 14, 17, 18] [0, 1] _ _ rfl rfl rfl) ⟨_, _, rfl, rfl, h⟩ ?_
     clear h
     rintro k1 E H ⟨x4, x5, rfl, rfl, h⟩
     cases k1 with
     | zero => cases (show (none : Option (Col)) = some _ from h)
     | succ k1 =>
      rw [impl_made_l1] at h
      refine kR ?_
      refine AOps_q 19 _ rfl rfl rfl (QOp_lss _ _ _ _ _ _ _ rfl rfl rfl) ?_
      refine AOps_nil ?_
      refine ACode_seq ?_
      refine kI h rfl (fun h _ => ?_) (fun h _ => ?_)
      ·refine ACode_skip ?_
       refine ACode_seq ?_
       refine ACode_block ?_
       refine kR ?_
       refine kN 2 rfl ?_
       refine (ACode_region ?_)
       refine kM 5 rfl ?_
       obtain ⟨r7, hr7, h⟩ := bindO h
       refine kC [] 26 (iV r7) [.box (colD Col.zero), .box (colD x5)] rfl hg_p2 rfl (viewA_mapD _) (hf_p2 x4 x1 _ hr7) rfl ?_
       obtain ⟨r8, hr8, h⟩ := bindO h
       refine kC [1] 27 (.tup []) [.box (colD Col.zero), .box (colD r8)] rfl Tryz.call94 rfl rfl (impl_Colouring_put_ac x5 x4 x1 r7 _ hr8) rfl ?_
       refine AOps_nil ?_
       refine (ACode_region ?_)
       refine AOps_q 28 _ rfl rfl rfl (QOp_add _ _ _ _ _ _ _ rfl rfl rfl) ?_
       refine kN 1 rfl ?_
       exact ⟨k1, _, _, Nat.lt_succ_self _, Weak_keep 0 hm [2, 6, 7, 8, 13, 14, 17, 18] [0, 1] _ _ rfl rfl rfl, _, _, rfl, rfl, h⟩
      refine ACode_exit ?_
      cases h
      exact Weak_keep 0 hm [2, 6, 7, 13, 14] [0, 1] _ _ rfl rfl rfl
    refine (ACode_region ?_)
    refine AOps_q 29 _ rfl rfl rfl (QOp_add _ _ _ _ _ _ _ rfl rfl rfl) ?_
    refine kN 1 rfl ?_
    exact ⟨k0, _, _, Nat.lt_succ_self _, Weak_keep 0 hm [2, 6, 7, 13, 14] [0, 1] _ _ rfl rfl rfl, _, _, rfl, rfl, h⟩
   refine ACode_exit ?_
   cases h
   exact Weak_keep 0 hm [6, 7] [0, 1] _ _ rfl rfl rfl
 refine kR ?_
 refine AOps_q 30 _ rfl rfl rfl (QOp_loadN_ptr _ _ _ _ _ _ _ rfl Tryz.isAgg26 Tryz.sizeOf26 rfl rfl (colD_all _) (colD_length _)) ?_
 refine AOps_store _ _ _ _ _ _ (colD _) _ _ rfl rfl rfl rfl rfl rfl rfl (colD_one _) (by rw [colD_length]; exact Tryz.sizeOf26) (by rw [colD_length, colD_length]; decide) (colD_whole _ _) ?_
 refine AOps_nil ?_
 refine ACode_ret ?_
 cases h
 exact ⟨_, _, fun r a w h => ⟨r, h⟩, _, _, [], _, (.cons (ResV_agg _ _ _ _ _ _ Tryz.isAgg26 Tryz.sizeOf26 rfl rfl (colD_take _) (colD_length _)) .nil), rfl, rfl, rfl, rfl, rfl⟩

-- (*loop.example/g01362/impl.Colouring).recoloured$1
def impl_Colouring_recoloured_c1 (p0 : Int) (p1 : Int) (p2 : Int → Option (Int)) (p3 : Col) : Option (Int) :=
 (impl_Colouring_at p3 p0 p1).bind fun r1 => (p2 r1).bind fun r2 => some r2
set_option maxRecDepth 100000 in
theorem impl_Colouring_recoloured_c1_ac (p0 : Int) (p1 : Int) (p2 : Int → Option (Int)) (p3 : Col) (g_p2 : FuncId) (c_p2 : List D) (hg_p2 : ∀ args w, (callFunc g_p2 args).run Tryz.prog w = .ok (.enter g_p2 args) w) (hf_p2 : ∀ (a0 : Int) (r : Int), p2 a0 = some r → AC Tryz.prog g_p2 ([iV a0] ++ c_p2.map AV.d) [] (fun res H' => res = [iV r] ∧ H' = [])) (r : Int) (h : impl_Colouring_recoloured_c1 p0 p1 p2 p3 = some r) : AC Tryz.prog 97 [iV p0, iV p1, .d (.pv ([.clo g_p2 c_p2]) 0), .d (.pv ([.pv (colD p3) 0]) 0)] [] (fun res H' => res = [iV r] ∧ H' = []) := by
 refine AC_of_body true Tryz.func97 rfl Tryz.ntmps97 (rvs := [.tmp 6]) rfl rfl (fun G hG => ?_)
 have hm : G.H.length = 0 := by rw [hG]; rfl
 have hz : zeroG G.H = true := by rw [hG]; rfl
 unfold impl_Colouring_recoloured_c1 at h
 refine kR ?_
 refine kN 1 rfl ?_
 refine ACode_seq (ACode_quiet mixed (by kernel_rfl) ?_)
 refine AQ_q 7 _ rfl rfl rfl (QOp_load_pv _ _ _ _ _ rfl Tryz.isAgg77 rfl rfl) ?_
 refine AQ_q 8 _ rfl rfl rfl (QOp_load_pv _ _ _ _ _ rfl Tryz.isAgg57 rfl rfl) ?_
 refine kQ 2 rfl ?_
 obtain ⟨r1, hr1, h⟩ := bindO h
 refine AQ_call 11 _ _ _ _ _ _ _ _ _ rfl rfl rfl rfl rfl rfl rfl Tryz.call95 rfl rfl rfl (impl_Colouring_at_ac p3 p0 p1 _ hr1) ?_
 obtain ⟨r2, hr2, h⟩ := bindO h
 refine AQ_call 12 _ _ _ _ _ _ _ _ _ rfl rfl rfl rfl rfl rfl rfl hg_p2 rfl rfl (viewA_mapD _) (hf_p2 r1 _ hr2) ?_
 refine kQ 1 rfl ?_
 refine AQ_nil ?_
 refine ACode_ret ?_
 cases h
 exact ⟨_, _, fun r a w h => ⟨r, h⟩, _, _, [], _, (.cons (ResV_tmp _ _ rfl) .nil), rfl, rfl, rfl, rfl, rfl⟩

-- (*loop.example/g01362/impl.Colouring).recoloured
def impl_Colouring_recoloured (k : Nat) (p0 : Col) (p1 : Int) (p2 : Int → Option (Int)) : Option (Col) :=
 (impl_made k p0.p p1 (fun a0 a1 => impl_Colouring_recoloured_c1 a0 a1 p2 p0)).bind fun r1 => some r1
set_option maxRecDepth 100000 in
theorem impl_Colouring_recoloured_ac (k : Nat) (p0 : Col) (p1 : Int) (p2 : Int → Option (Int)) (g_p2 : FuncId) (c_p2 : List D) (hg_p2 : ∀ args w, (callFunc g_p2 args).run Tryz.prog w = .ok (.enter g_p2 args) w) (hf_p2 : ∀ (a0 : Int) (r : Int), p2 a0 = some r → AC Tryz.prog g_p2 ([iV a0] ++ c_p2.map AV.d) [] (fun res H' => res = [iV r] ∧ H' = [])) (r : Col) (h : impl_Colouring_recoloured k p0 p1 p2 = some r) : AC Tryz.prog 55 [.d (.pv (colD p0) 0), iV p1, .d (.clo g_p2 c_p2)] [] (fun res H' => res = [.d (.agg (colD r))] ∧ H' = []) := by
 refine AC_of_body true Tryz.func55 rfl Tryz.ntmps55 (rvs := [.cell 6 26]) rfl rfl (fun G hG => ?_)
 have hm : G.H.length = 0 := by rw [hG]; rfl
 have hz : zeroG G.H = true := by rw [hG]; rfl
 unfold impl_Colouring_recoloured at h
 refine kR ?_
 refine AOps_boxI 3 _ _ (.pv (colD p0) 0) _ rfl (fun c hc => by cases hc with | head => rfl | tail _ h => cases h) rfl rfl rfl rfl rfl ?_
 refine AOps_boxI 5 _ _ (.clo g_p2 c_p2) _ rfl (fun c hc => by cases hc with | head => rfl | tail _ h => cases h) rfl rfl rfl rfl rfl ?_
 refine AOps_alloc 6 _ _ (colD Col.zero) (zero_of Tryz.typeInfo26 rfl) (by rfl) rfl rfl rfl rfl ?_
 refine AOps_nil ?_
 refine kR ?_
 refine AOps_q 7 _ rfl rfl rfl (QOp_load_pv _ _ _ _ _ rfl Tryz.isAgg57 rfl rfl) ?_
 refine AOps_q 8 _ rfl rfl rfl (QOp_nilCheck_pv _ _ _ rfl rfl) ?_
 refine AOps_q 9 _ rfl rfl rfl (QOp_fieldAddr_pv _ _ _ _ _ 0 _ _ rfl Tryz.underlying26 rfl _ Tryz.sizeOf2 rfl rfl) ?_
 refine AOps_q 10 _ rfl rfl rfl (QOp_load_pv _ _ _ _ _ rfl Tryz.isAgg2 rfl rfl) ?_
 refine kM 1 rfl ?_
 refine AOps_q 12 _ rfl rfl rfl (QOp_makeFuncD _ _ _ _ rfl rfl rfl) ?_
 obtain ⟨r1, hr1, h⟩ := bindO h
 refine kC [] 13 (.d (.agg (colD r1))) [.box (colD Col.zero)] rfl Tryz.call96 rfl rfl (impl_made_ac k p0.p p1 (fun a0 a1 => impl_Colouring_recoloured_c1 a0 a1 p2 p0) 97 ([.pv ([.clo g_p2 c_p2]) 0, .pv ([.pv (colD p0) 0]) 0]) Tryz.call97 (fun a0 a1 r h => impl_Colouring_recoloured_c1_ac a0 a1 p2 p0 g_p2 c_p2 hg_p2 hf_p2 r h) _ hr1) rfl ?_
 refine AOps_store _ _ _ _ _ _ (colD _) _ _ rfl rfl rfl rfl rfl rfl rfl (colD_one _) (by rw [colD_length]; exact Tryz.sizeOf26) (by rw [colD_length, colD_length]; decide) (colD_whole _ _) ?_
 refine AOps_nil ?_
 refine ACode_ret ?_
 cases h
 exact ⟨_, _, fun r a w h => ⟨r, h⟩, _, _, [], _, (.cons (ResV_agg _ _ _ _ _ _ Tryz.isAgg26 Tryz.sizeOf26 rfl rfl (colD_take _) (colD_length _)) .nil), rfl, rfl, rfl, rfl, rfl⟩

-- (*loop.example/g01362/impl.Colouring).alike$1
def impl_Colouring_alike_c1 (p0 : Int) (p1 : List Int) : Option (Int) :=
 (if 0 ≤ p0 ∧ p0 < (p1.length : Int) then some (p1.getD p0.toNat 0) else none)
set_option maxRecDepth 100000 in
theorem impl_Colouring_alike_c1_ac (p0 : Int) (p1 : List Int) (r : Int) (h : impl_Colouring_alike_c1 p0 p1 = some r) : AC Tryz.prog 85 [iV p0, .d (.pv ([.sl none (intsD p1)]) 0)] [] (fun res H' => res = [iV r] ∧ H' = []) := by
 refine AC_of_body true Tryz.func85 rfl Tryz.ntmps85 (rvs := [.tmp 3]) rfl rfl (fun G hG => ?_)
 have hm : G.H.length = 0 := by rw [hG]; rfl
 have hz : zeroG G.H = true := by rw [hG]; rfl
 unfold impl_Colouring_alike_c1 at h
 refine kR ?_
 refine kN 1 rfl ?_
 refine kR ?_
 refine AOps_q 4 _ rfl rfl rfl (QOp_load_pv _ _ _ _ _ rfl Tryz.isAgg29 rfl rfl) ?_
 refine kM 1 rfl ?_
 obtain ⟨hc1, h⟩ := guardO h
 refine AOps_q 6 _ rfl rfl rfl (QOp_indexAddr_sl _ _ _ _ _ _ _ _ rfl Tryz.underlying29 Tryz.sizeOf2 hc1.1 (by rw [intsD_length]; exact hc1.2) rfl rfl) ?_
 refine AOps_q 7 _ rfl rfl rfl (QOp_load_pv _ _ _ _ _ rfl Tryz.isAgg2 rfl (intsD_get _ _ 0 (by omega))) ?_
 refine kN 1 rfl ?_
 refine ACode_ret ?_
 cases h
 exact ⟨_, _, fun r a w h => ⟨r, h⟩, _, _, [], _, (.cons (ResV_tmp _ _ rfl) .nil), rfl, rfl, rfl, rfl, rfl⟩

-- (*loop.example/g01362/impl.Colouring).alike
def impl_Colouring_alike_l0 (k : Nat) (p0 : Col) (p1 : Col) (p2 : Int) (r1 : List (List Int)) : Nat → Int → Option (Sum (Unit) (List Int × Option (List Int) × Bool))
 | 0, _ => none
 | k0 + 1, x3 => (if decide (x3 < (((r1.take r1.length).drop p2.toNat).length : Int)) then (if 0 ≤ x3 ∧ x3 < (((r1.take r1.length).drop p2.toNat).length : Int) then (impl_Colouring_recoloured k p0 p0.k (fun a0 => impl_Colouring_alike_c1 a0 (((r1.take r1.length).drop p2.toNat).getD x3.toNat []))).bind fun r6 => (impl_Colouring_renumbering k r6 p1).bind fun r7 => (if r7.2 then some (.inr ((((r1.take r1.length).drop p2.toNat).getD x3.toNat []), some r7.1, true)) else impl_Colouring_alike_l0 k p0 p1 p2 r1 k0 (w64 (x3 + 1))) else none) else some (.inl ()))
def impl_Colouring_alike (k : Nat) (p0 : Col) (p1 : Col) (p2 : Int) : Option (List Int × Option (List Int) × Bool) :=
 ((impl_orders k p0.k ([])).bind fun r1 => (if 0 ≤ p2 ∧ p2 ≤ (r1.length : Int) ∧ (r1.length : Int) ≤ (r1.length : Int) then impl_Colouring_alike_l0 k p0 p1 p2 r1 k 0 else none) : Option (Sum (Unit) (List Int × Option (List Int) × Bool))).bind fun os9 => (match os9 with | .inl s9 => some ([], none, false) | .inr rr => some rr)
set_option maxRecDepth 100000 in
theorem impl_Colouring_alike_ac (k : Nat) (p0 : Col) (p1 : Col) (p2 : Int) (r : List Int × Option (List Int) × Bool) (h : impl_Colouring_alike k p0 p1 p2 = some r) : AC Tryz.prog 40 [.d (.pv (colD p0) 0), .d (.pv (colD p1) 0), iV p2] [] (fun res H' => res = [.d (.sl none (intsD r.1)), ownA 0 (r.2.1.map intsD), bV r.2.2] ∧ H' = [] ++ ownH (r.2.1.map intsD)) := by
 refine AC_of_body false Tryz.func40 rfl Tryz.ntmps40 (rvs := [.tmp 6, .tmp 7, .tmp 8]) rfl rfl (fun G hG => ?_)
 have hm : G.H.length = 0 := by rw [hG]; rfl
 have hz : zeroG G.H = true := by rw [hG]; rfl
 unfold impl_Colouring_alike at h
 refine kR ?_
 refine kN 3 rfl ?_
 refine kO (fun s9 => []) (fun s9 => []) h (fun os9 h hks9 => ?_) (fun s9 h => ?_)
 ·refine kR ?_
  refine kM 1 rfl ?_
  refine AOps_q 15 _ rfl rfl rfl (QOp_nilCheck_pv _ _ _ rfl rfl) ?_
  refine AOps_q 16 _ rfl rfl rfl (QOp_fieldAddr_pv _ _ _ _ _ 1 _ _ rfl Tryz.underlying26 rfl _ Tryz.sizeOf2 rfl rfl) ?_
  refine AOps_q 17 _ rfl rfl rfl (QOp_load_pv _ _ _ _ _ rfl Tryz.isAgg2 rfl rfl) ?_
  obtain ⟨r1, hr1, h⟩ := bindO h
  refine kC [] 18 (.d (.sl none (rowsD r1))) [] rfl Tryz.call62 rfl rfl (impl_orders_ac k p0.k ([]) _ hr1) rfl ?_
  refine kM 1 rfl ?_
  obtain ⟨hc2, h⟩ := guardO h
  refine AOps_q 20 _ rfl rfl rfl (QOp_slice_sl _ _ _ _ _ _ _ _ (p2.toNat) (r1.length) rfl Tryz.underlying45 Tryz.sizeOf29 rfl ⟨_, by rw [Int.toNat_of_nonneg (by omega)]; rfl⟩ (by rw [rowsD_length]) (by omega) (by rw [rowsD_length]; omega) (rowsD_part _ _ _)) ?_
  refine AOps_q 21 _ rfl rfl rfl (QOp_len_sl _ _ _ _ _ _ _ (rowsD_length _) rfl rfl rfl rfl Tryz.underlying45 rfl) ?_
  refine kN 1 rfl ?_
  refine ACode_block ?_
  refine ACode_loopW (fun k0 E H => ∃ (x3 : Int), E = [(0, .d (.pv (colD p0) 0)), (1, .d (.pv (colD p1) 0)), (20, .d (.sl none (rowsD ((r1.take r1.length).drop p2.toNat)))), (21, iV (((r1.take r1.length).drop p2.toNat).length : Int)), (22, iV x3)] ∧ H = [] ∧ impl_Colouring_alike_l0 k p0 p1 p2 r1 k0 x3 = some os9) k _ _ (Weak_keep 0 hm [0, 1, 20, 21, 22] [] _ _ rfl rfl rfl) ⟨_, rfl, rfl, h⟩ ?_
  clear h
  rintro k0 E H ⟨x3, rfl, rfl, h⟩
  cases k0 with
  | zero => cases (show (none : Option (Sum (Unit) (List Int × Option (List Int) × Bool))) = some _ from h)
  | succ k0 =>
   rw [impl_Colouring_alike_l0] at h
   refine kR ?_
   refine AOps_q 23 _ rfl rfl rfl (QOp_lss _ _ _ _ _ _ _ rfl rfl rfl) ?_
   refine AOps_nil ?_
   refine ACode_seq ?_
   refine kI h rfl (fun h _ => ?_) (fun h _ => ?_)
   ·refine ACode_skip ?_
    refine ACode_seq ?_
    refine ACode_block ?_
    refine kR ?_
    obtain ⟨hc5, h⟩ := guardO h
    refine AOps_q 24 _ rfl rfl rfl (QOp_indexAddr_sl _ _ _ _ _ _ _ _ rfl Tryz.underlying45 Tryz.sizeOf29 hc5.1 (by rw [rowsD_length]; exact hc5.2) rfl rfl) ?_
    refine AOps_q 25 _ rfl rfl rfl (QOp_load_pv _ _ _ _ _ rfl Tryz.isAgg29 rfl (rowsD_get _ _ [] (by omega))) ?_
    refine AOps_alloc 10 _ _ ([.sl (some true) []]) (zero_of Tryz.typeInfo29 rfl) (by rfl) rfl rfl rfl rfl ?_
    refine AOps_store1 _ _ _ _ _ _ _ _ rfl rfl rfl rfl rfl rfl rfl Tryz.sizeOf29 (Nat.le_of_ble_eq_true rfl) rfl ?_
    refine AOps_nil ?_
    refine kR ?_
    refine kM 2 rfl ?_
    refine AOps_q 28 _ rfl rfl rfl (QOp_nilCheck_pv _ _ _ rfl rfl) ?_
    refine AOps_q 29 _ rfl rfl rfl (QOp_fieldAddr_pv _ _ _ _ _ 1 _ _ rfl Tryz.underlying26 rfl _ Tryz.sizeOf2 rfl rfl) ?_
    refine AOps_q 30 _ rfl rfl rfl (QOp_load_pv _ _ _ _ _ rfl Tryz.isAgg2 rfl rfl) ?_
    refine AOps_q 31 _ rfl rfl rfl (QOp_makeFunc _ _ _ rfl rfl) ?_
    obtain ⟨r6, hr6, h⟩ := bindO h
    refine AOps_callL [] 32 _ _ _ _ _ _ _ _ _ _ rfl rfl rfl rfl rfl rfl rfl Tryz.call55 rfl (nodupB_sound _ rfl) rfl rfl rfl (impl_Colouring_recoloured_ac k p0 p0.k (fun a0 => impl_Colouring_alike_c1 a0 (((r1.take r1.length).drop p2.toNat).getD x3.toNat [])) 85 ([.pv ([.sl none (intsD (((r1.take r1.length).drop p2.toNat).getD x3.toNat []))]) 0]) Tryz.call85 (fun a0 r h => impl_Colouring_alike_c1_ac a0 (((r1.take r1.length).drop p2.toNat).getD x3.toNat []) r h) _ hr6) ?_
    rintro _ _ ⟨rfl, rfl⟩
    refine ⟨(fun _ h => nomatch h), (allc (flat_agg (colD_flat _)) (fun _ h => nomatch h)), AOps_as 32 (v' := .d (.agg (colD r6))) (H' := [.box [.sl none (intsD (((r1.take r1.length).drop p2.toNat).getD x3.toNat []))]]) rfl rfl ?_⟩
    refine AOps_alloc 11 _ _ (colD Col.zero) (zero_of Tryz.typeInfo26 rfl) (by rfl) rfl rfl rfl rfl ?_
    refine AOps_store _ _ _ _ _ _ (colD _) _ _ rfl rfl rfl rfl rfl rfl rfl (colD_one _) (by rw [colD_length]; exact Tryz.sizeOf26) (by rw [colD_length, colD_length]; decide) (colD_whole _ _) ?_
    refine AOps_nil ?_
    refine kR ?_
    refine kM 1 rfl ?_
    obtain ⟨r7, hr7, h⟩ := bindO h
    refine AOps_callL [] 35 _ _ _ _ _ _ _ _ _ _ rfl rfl rfl rfl rfl rfl rfl Tryz.call37 rfl (nodupB_sound _ rfl) rfl rfl rfl (impl_Colouring_renumbering_ac k r6 p1 _ hr7) ?_
    rintro _ _ ⟨rfl, rfl⟩
    refine ⟨(allc (intsD_flat _) (fun _ h => nomatch h)), (allc (trivial) (allc (flat_s _) (fun _ h => nomatch h))), AOps_as 35 (v' := .tup [.vec 2 0, bV r7.2]) (H' := [.box [.sl none (intsD (((r1.take r1.length).drop p2.toNat).getD x3.toNat []))], .box (colD r6), .vec 0 (intsD r7.1)]) rfl rfl ?_⟩
    refine kN 5 rfl ?_
    refine kR ?_
    refine kN 1 rfl ?_
    refine kI h rfl (fun h _ => ?_) (fun h _ => ?_)
    ·refine kR ?_
     refine AOps_q 39 _ rfl rfl rfl (QOp_load_ptr _ _ _ _ _ _ rfl Tryz.isAgg29 rfl rfl rfl) ?_
     refine kN 4 rfl ?_
     refine ACode_ret ?_
     cases h
     have h := hks9
     cases h
     exact ⟨_, _, Weak_reset 0 hm hz [6, 7, 8] _ _ rfl rfl, _, _, [2], _, (.cons (ResV_tmp _ _ rfl) (.cons (ResV_tmp _ _ rfl) (.cons (ResV_tmp _ _ rfl) .nil))), rfl, rfl, rfl, rfl, rfl⟩
    refine ACode_skip ?_
    refine (ACode_region ?_)
    refine AOps_q 41 _ rfl rfl rfl (QOp_add _ _ _ _ _ _ _ rfl rfl rfl) ?_
    refine kN 1 rfl ?_
    exact ⟨k0, _, _, Nat.lt_succ_self _, Weak_keep 0 hm [0, 1, 20, 21, 22] [] _ _ rfl rfl rfl, _, rfl, rfl, h⟩
   refine ACode_exit ?_
   cases h
   exact ⟨_, rfl, Weak_keep 0 hm [] [] _ _ rfl rfl rfl⟩
 refine kR ?_
 refine kN 3 rfl ?_
 refine ACode_ret ?_
 cases h
 exact ⟨_, _, (Weak_trans (Weak_dropF 6 _ _ rfl) (fun r a w h => ⟨r, h⟩)), _, _, [], _, (.cons (ResV_tmp _ _ rfl) (.cons (ResV_tmp _ _ rfl) (.cons (ResV_tmp _ _ rfl) .nil))), rfl, rfl, rfl, rfl, rfl⟩

-- loop.example/g01362/impl.FindAlike
def impl_FindAlike (k : Nat) (p0 : Col) (p1 : Col) : Option (List Int × Option (List Int) × Int) :=
 (((impl_Colouring_isColouring k p0).bind fun r1 => (if !r1 then some true else (impl_Colouring_isColouring k p1).bind fun r3 => some (!r3)) : Option (Bool)).bind fun s4 => (if s4 then some (.inr ([], none, 1)) else some (.inl ())) : Option (Sum (Unit) (List Int × Option (List Int) × Int))).bind fun os6 => (match os6 with | .inl s6 => (impl_Colouring_alike k p0 p1 0).bind fun r7 => (match r7.2.1 with | none => (if !r7.2.2 then some ([], none, 4) else some (r7.1, none, 0)) | some l8 => (if !r7.2.2 then some ([], none, 4) else some (r7.1, some l8, 0))) | .inr rr => some rr)
set_option maxRecDepth 100000 in
theorem impl_FindAlike_ac (k : Nat) (p0 : Col) (p1 : Col) (r : List Int × Option (List Int) × Int) (h : impl_FindAlike k p0 p1 = some r) : AC Tryz.prog 12 [.d (.agg (colD p0)), .d (.agg (colD p1))] [] (fun res H' => res = [.d (.sl none (intsD r.1)), ownA 0 (r.2.1.map intsD), iV r.2.2] ∧ H' = [] ++ ownH (r.2.1.map intsD)) := by
 refine AC_of_body false Tryz.func12 rfl Tryz.ntmps12 (rvs := [.tmp 4, .tmp 5, .tmp 6]) rfl rfl (fun G hG => ?_)
 have hm : G.H.length = 0 := by rw [hG]; rfl
 have hz : zeroG G.H = true := by rw [hG]; rfl
 unfold impl_FindAlike at h
 refine kR ?_
 refine AOps_boxI 2 _ _ (.agg (colD p0)) (colD p0) rfl (colD_one _) rfl rfl rfl rfl rfl ?_
 refine AOps_boxI 3 _ _ (.agg (colD p1)) (colD p1) rfl (colD_one _) rfl rfl rfl rfl rfl ?_
 refine kN 3 rfl ?_
 refine kO (fun s6 => [(2, .d (.pv (colD p0) 0)), (3, .d (.pv (colD p1) 0))]) (fun s6 => []) h (fun os6 h hks6 => ?_) (fun s6 h => ?_)
 ·refine kB (fun s4 => [(2, .d (.pv (colD p0) 0)), (3, .d (.pv (colD p1) 0)), (15, bV s4)]) (fun s4 => []) h (fun s4 h => ?_) (fun s4 h => ?_)
  ·refine (ACode_region ?_)
   obtain ⟨r1, hr1, h⟩ := bindO h
   refine kC [] 10 (bV r1) [] rfl Tryz.call36 rfl rfl (impl_Colouring_isColouring_ac k p0 _ hr1) rfl ?_
   refine AOps_q 11 _ rfl rfl rfl (QOp_not _ _ _ rfl rfl) ?_
   refine kM 1 rfl ?_
   refine AOps_case 12 _ rfl (fun hb2 => ?_) (fun hb2 => ?_)
   ·have h := iteT hb2 h
    refine AOps_skip 13 rfl rfl rfl ?_
    refine AOps_skip 14 rfl rfl rfl ?_
    refine kN 1 rfl ?_
    cases h
    exact Weak_keep 0 hm [2, 3, 15] [] _ _ rfl rfl rfl
   have h := iteF hb2 h
   obtain ⟨r3, hr3, h⟩ := bindO h
   refine kC [] 13 (bV r3) [] rfl Tryz.call36 rfl rfl (impl_Colouring_isColouring_ac k p1 _ hr3) rfl ?_
   refine AOps_q 14 _ rfl rfl rfl (QOp_not _ _ _ rfl rfl) ?_
   refine kN 1 rfl ?_
   cases h
   exact Weak_keep 0 hm [2, 3, 15] [] _ _ rfl rfl rfl
  refine kI h rfl (fun h _ => ?_) (fun h _ => ?_)
  ·refine kR ?_
   refine kN 3 rfl ?_
   refine ACode_ret ?_
   cases h
   have h := hks6
   cases h
   exact ⟨_, _, (Weak_trans (Weak_dropF 4 _ _ rfl) (fun r a w h => ⟨r, h⟩)), _, _, [], _, (.cons (ResV_tmp _ _ rfl) (.cons (ResV_tmp _ _ rfl) (.cons (ResV_tmp _ _ rfl) .nil))), rfl, rfl, rfl, rfl, rfl⟩
  refine ACode_skip ?_
  cases h
  exact ⟨_, rfl, Weak_keep 0 hm [2, 3] [] _ _ rfl rfl rfl⟩
 refine kR ?_
 obtain ⟨r7, hr7, h⟩ := bindO h
 refine AOps_call [] 17 _ _ _ _ _ _ _ _ _ _ rfl rfl rfl rfl rfl rfl rfl Tryz.call40 rfl (nodupB_sound _ rfl) rfl rfl rfl (impl_Colouring_alike_ac k p0 p1 0 _ hr7) ?_
 revert h
 cases hx9 : r7.2.1 with
 | none =>
  intro h
  rintro _ _ ⟨rfl, rfl⟩
  refine ⟨(fun _ h => nomatch h), (allc (trivial) (allc (trivial) (allc (trivial) (fun _ h => nomatch h)))), AOps_as 17 (v' := .tup [.d (.sl none (intsD r7.1)), .d (.sl (some true) []), bV r7.2.2]) (H' := []) rfl rfl ?_⟩
  refine kN 7 rfl ?_
  refine ACode_seq ?_
  refine kR ?_
  refine kM 1 rfl ?_
  refine AOps_q 22 _ rfl rfl rfl (QOp_not _ _ _ rfl rfl) ?_
  refine AOps_nil ?_
  refine kI h rfl (fun h _ => ?_) (fun h _ => ?_)
  ·refine kR ?_
   refine kN 3 rfl ?_
   refine ACode_ret ?_
   cases h
   exact ⟨_, _, (Weak_trans (Weak_dropF 4 _ _ rfl) (fun r a w h => ⟨r, h⟩)), _, _, [], _, (.cons (ResV_tmp _ _ rfl) (.cons (ResV_tmp _ _ rfl) (.cons (ResV_tmp _ _ rfl) .nil))), rfl, rfl, rfl, rfl, rfl⟩
  refine ACode_skip ?_
  refine kR ?_
  refine kN 5 rfl ?_
  refine ACode_ret ?_
  cases h
  exact ⟨_, _, fun r a w h => ⟨r, h⟩, _, _, [], _, (.cons (ResV_tmp _ _ rfl) (.cons (ResV_tmp _ _ rfl) (.cons (ResV_tmp _ _ rfl) .nil))), rfl, rfl, rfl, rfl, rfl⟩
 | some l8 =>
  intro h
  rintro _ _ ⟨rfl, rfl⟩
  refine ⟨(allc (fun _ _ => trivial) (fun _ h => nomatch h)), (allc (trivial) (allc (trivial) (allc (trivial) (fun _ h => nomatch h)))), AOps_as 17 (v' := .tup [.d (.sl none (intsD r7.1)), .vec 0 0, bV r7.2.2]) (H' := [.vec 0 (intsD l8)]) rfl rfl ?_⟩
  refine kN 7 rfl ?_
  refine ACode_seq ?_
  refine kR ?_
  refine kM 1 rfl ?_
  refine AOps_q 22 _ rfl rfl rfl (QOp_not _ _ _ rfl rfl) ?_
  refine AOps_nil ?_
  refine kI h rfl (fun h _ => ?_) (fun h _ => ?_)
  ·refine kR ?_
   refine kN 3 rfl ?_
   refine ACode_ret ?_
   cases h
   exact ⟨_, _, (Weak_trans (Weak_dropF 4 _ _ rfl) (fun r a w h => ⟨r, h⟩)), _, _, [], _, (.cons (ResV_tmp _ _ rfl) (.cons (ResV_tmp _ _ rfl) (.cons (ResV_tmp _ _ rfl) .nil))), rfl, rfl, rfl, rfl, rfl⟩
  refine ACode_skip ?_
  refine kR ?_
  refine kN 5 rfl ?_
  refine ACode_ret ?_
  cases h
  exact ⟨_, _, Weak_reset 0 hm hz [4, 5, 6] _ _ rfl rfl, _, _, [0], _, (.cons (ResV_tmp _ _ rfl) (.cons (ResV_tmp _ _ rfl) (.cons (ResV_tmp _ _ rfl) .nil))), rfl, rfl, rfl, rfl, rfl⟩

-- loop.example/g01362/spec.l06Orders
def spec_l06Orders_l1 (p0 : List Int) (x2 : Int) : Nat → Bool → Int → Option (Bool)
 | 0, _, _ => none
 | k1 + 1, x5, x6 => (if decide (x6 < (p0.length : Int)) then ((if x5 then some true else (if 0 ≤ x6 ∧ x6 < (p0.length : Int) then some (decide ((p0.getD x6.toNat 0) = x2)) else none)) : Option (Bool)).bind fun s10 => spec_l06Orders_l1 p0 x2 k1 s10 (w64 (x6 + 1)) else some x5)
def spec_l06Orders_l0 (k : Nat) (self : (List Int) → Int → Option (List (List Int))) (p0 : List Int) (p1 : Int) : Nat → Int → (List (List Int)) → Option (List (List Int))
 | 0, _, _ => none
 | k0 + 1, x2, x3 => (if decide (x2 < p1) then ((spec_l06Orders_l1 p0 x2 k false 0 : Option (Bool)).bind fun s11 => (if !s11 then (spec_l01Own p0).bind fun r13 => (if r13.length + ([x2]).length ≤ 1099511627776 then (self (r13 ++ ([x2])) p1).bind fun r15 => (if x3.length + r15.length ≤ 1099511627776 then some (x3 ++ r15) else none) else none) else some x3) : Option (List (List Int))).bind fun s17 => spec_l06Orders_l0 k self p0 p1 k0 (w64 (x2 + 1)) s17 else some x3)
def spec_l06Orders_body (self : (List Int) → Int → Option (List (List Int))) (k : Nat) (p0 : List Int) (p1 : Int) : Option (List (List Int)) :=
 (if decide ((p0.length : Int) = p1) then some ([p0]) else (spec_l06Orders_l0 k self p0 p1 k 0 ([] : List (List Int)) : Option (List (List Int))).bind fun s18 => some s18)
def spec_l06Orders : Nat → (List Int) → Int → Option (List (List Int))
 | 0, _, _ => none
 | k + 1, p0, p1 => spec_l06Orders_body (spec_l06Orders k) k p0 p1
set_option maxRecDepth 100000 in
theorem spec_l06Orders_ac (k : Nat) (p0 : List Int) (p1 : Int) (r : List (List Int)) (h : spec_l06Orders k p0 p1 = some r) : AC Tryz.prog 41 [.d (.sl none (intsD p0)), iV p1] [] (fun res H' => res = [.d (.sl none (rowsD r))] ∧ H' = []) := by
 induction k generalizing p0 p1 r with
 | zero => simp [spec_l06Orders] at h
 | succ k ih =>
  rw [spec_l06Orders] at h
  obtain ⟨self, hself, hk⟩ : ∃ self : (List Int) → Int → Option (List (List Int)), (∀ (p0 : List Int) (p1 : Int) (r : List (List Int)), self p0 p1 = some r → AC Tryz.prog 41 [.d (.sl none (intsD p0)), iV p1] [] (fun res H' => res = [.d (.sl none (rowsD r))] ∧ H' = [])) ∧ spec_l06Orders k = self := ⟨spec_l06Orders k, fun p0 p1 r h => ih p0 p1 r h, rfl⟩
  rw [hk] at h
  clear ih hk
  refine AC_of_body true Tryz.func41 rfl Tryz.ntmps41 (rvs := [.tmp 4]) rfl rfl (fun G hG => ?_)
  have hm : G.H.length = 0 := by rw [hG]; rfl
  have hz : zeroG G.H = true := by rw [hG]; rfl
  unfold spec_l06Orders_body at h
  refine kR ?_
  refine kN 1 rfl ?_
  refine ACode_seq ?_
  refine kR ?_
  refine kM 1 rfl ?_
  refine AOps_q 10 _ rfl rfl rfl (QOp_len_sl _ _ _ _ _ _ _ (intsD_length _) rfl rfl rfl rfl Tryz.underlying29 rfl) ?_
  refine kM 1 rfl ?_
  refine AOps_q 12 _ rfl rfl rfl (QOp_eql _ _ _ _ _ _ _ rfl rfl rfl) ?_
  refine AOps_nil ?_
  refine kI h rfl (fun h _ => ?_) (fun h _ => ?_)
  ·refine kR ?_
   refine kM 1 rfl ?_
   refine AOps_buildSlice 14 _ _ _ [_] (rowsD ([p0])) _ rfl rfl rfl rfl rfl (by decide) Tryz.underlying45 Tryz.sizeOf29 (zero_of Tryz.typeInfo29 rfl) rfl rfl (rowsD_one _) ?_
   refine kN 1 rfl ?_
   refine ACode_ret ?_
   cases h
   exact ⟨_, _, fun r a w h => ⟨r, h⟩, _, _, [], _, (.cons (ResV_tmp _ _ rfl) .nil), rfl, rfl, rfl, rfl, rfl⟩
  refine ACode_skip ?_
  refine kR ?_
  refine AOps_buildSlice 15 _ _ _ [] (rowsD ([] : List (List Int))) _ rfl rfl rfl rfl rfl (by decide) Tryz.underlying45 Tryz.sizeOf29 (zero_of Tryz.typeInfo29 rfl) rfl rfl (rowsD_one _) ?_
  refine kN 1 rfl ?_
  refine kB (fun s18 => [(5, .vec 0 0)]) (fun s18 => [.vec 0 (rowsD s18)]) h (fun s18 h => ?_) (fun s18 h => ?_)
  ·refine kR ?_
   refine kN 1 rfl ?_
   refine ACode_block ?_
   refine ACode_loopW (fun k0 E H => ∃ (x2 : Int) (x3 : List (List Int)), E = [(0, .d (.sl none (intsD p0))), (1, iV p1), (5, .vec 0 0), (6, iV x2)] ∧ H = [.vec 0 (rowsD x3)] ∧ spec_l06Orders_l0 k self p0 p1 k0 x2 x3 = some s18) k _ _ (Weak_keep 0 hm [0, 1, 5, 6] [0] _ _ rfl rfl rfl) ⟨_, _, rfl, rfl, h⟩ ?_
   clear h
   rintro k0 E H ⟨x2, x3, rfl, rfl, h⟩
   cases k0 with
   | zero => cases (show (none : Option (List (List Int))) = some _ from h)
   | succ k0 =>
    rw [spec_l06Orders_l0] at h
    refine ACode_seq ?_
    refine kR ?_
    refine kM 2 rfl ?_
    refine AOps_q 18 _ rfl rfl rfl (QOp_lss _ _ _ _ _ _ _ rfl rfl rfl) ?_
    refine AOps_nil ?_
    refine kI h rfl (fun h _ => ?_) (fun h _ => ?_)
    ·refine ACode_skip ?_
     refine kB (fun s17 => [(0, .d (.sl none (intsD p0))), (1, iV p1), (5, .vec 0 0), (6, iV x2)]) (fun s17 => [.vec 0 (rowsD s17)]) h (fun s17 h => ?_) (fun s17 h => ?_)
     ·refine ACode_block ?_
      refine kR ?_
      refine kN 1 rfl ?_
      refine kB (fun s11 => [(0, .d (.sl none (intsD p0))), (1, iV p1), (5, .vec 0 0), (6, iV x2), (7, bV s11)]) (fun s11 => [.vec 0 (rowsD x3)]) h (fun s11 h => ?_) (fun s11 h => ?_)
      ·refine kR ?_
       refine kN 1 rfl ?_
       refine ACode_block ?_
       refine ACode_loopW (fun k1 E H => ∃ (x5 : Bool) (x6 : Int), E = [(0, .d (.sl none (intsD p0))), (1, iV p1), (5, .vec 0 0), (6, iV x2), (7, bV x5), (8, iV x6)] ∧ H = [.vec 0 (rowsD x3)] ∧ spec_l06Orders_l1 p0 x2 k1 x5 x6 = some s11) k _ _ (Weak_keep 0 hm [0, 1, 5, 6, 7, 8] [0] _ _ rfl rfl rfl) ⟨_, _, rfl, rfl, h⟩ ?_
       clear h
       rintro k1 E H ⟨x5, x6, rfl, rfl, h⟩
       cases k1 with
       | zero => cases (show (none : Option (Bool)) = some _ from h)
       | succ k1 =>
        rw [spec_l06Orders_l1] at h
        refine ACode_seq ?_
        refine kR ?_
        refine kM 2 rfl ?_
        refine AOps_q 23 _ rfl rfl rfl (QOp_len_sl _ _ _ _ _ _ _ (intsD_length _) rfl rfl rfl rfl Tryz.underlying29 rfl) ?_
        refine AOps_q 24 _ rfl rfl rfl (QOp_lss _ _ _ _ _ _ _ rfl rfl rfl) ?_
        refine AOps_nil ?_
        refine kI h rfl (fun h _ => ?_) (fun h _ => ?_)
        ·refine ACode_skip ?_
         refine kB (fun s10 => [(0, .d (.sl none (intsD p0))), (1, iV p1), (5, .vec 0 0), (6, iV x2), (7, bV s10), (8, iV x6)]) (fun s10 => [.vec 0 (rowsD x3)]) h (fun s10 h => ?_) (fun s10 h => ?_)
         ·refine ACode_block ?_
          refine (ACode_region ?_)
          refine kM 2 rfl ?_
          refine AOps_case 28 _ rfl (fun hb8 => ?_) (fun hb8 => ?_)
          ·have h := iteT hb8 h
           refine AOps_skip 29 rfl rfl rfl ?_
           refine AOps_skip 30 rfl rfl rfl ?_
           refine AOps_skip 31 rfl rfl rfl ?_
           refine AOps_skip 32 rfl rfl rfl ?_
           refine AOps_skip 33 rfl rfl rfl ?_
           refine AOps_skip 34 rfl rfl rfl ?_
           refine kN 2 rfl ?_
           cases h
           exact Weak_keep 0 hm [0, 1, 5, 6, 7, 8] [0] _ _ rfl rfl rfl
          have h := iteF hb8 h
          refine kM 2 rfl ?_
          obtain ⟨hc9, h⟩ := guardO h
          refine AOps_q 31 _ rfl rfl rfl (QOp_indexAddr_sl _ _ _ _ _ _ _ _ rfl Tryz.underlying29 Tryz.sizeOf2 hc9.1 (by rw [intsD_length]; exact hc9.2) rfl rfl) ?_
          refine AOps_q 32 _ rfl rfl rfl (QOp_load_pv _ _ _ _ _ rfl Tryz.isAgg2 rfl (intsD_get _ _ 0 (by omega))) ?_
          refine kM 1 rfl ?_
          refine AOps_q 34 _ rfl rfl rfl (QOp_eql _ _ _ _ _ _ _ rfl rfl rfl) ?_
          refine kN 2 rfl ?_
          cases h
          exact Weak_keep 0 hm [0, 1, 5, 6, 7, 8] [0] _ _ rfl rfl rfl
         refine (ACode_region ?_)
         refine kM 1 rfl ?_
         refine AOps_q 26 _ rfl rfl rfl (QOp_add _ _ _ _ _ _ _ rfl rfl rfl) ?_
         refine kN 1 rfl ?_
         exact ⟨k1, _, _, Nat.lt_succ_self _, Weak_keep 0 hm [0, 1, 5, 6, 7, 8] [0] _ _ rfl rfl rfl, _, _, rfl, rfl, h⟩
        refine ACode_exit ?_
        cases h
        exact Weak_keep 0 hm [0, 1, 5, 6, 7] [0] _ _ rfl rfl rfl
      refine kR ?_
      refine kM 1 rfl ?_
      refine AOps_q 37 _ rfl rfl rfl (QOp_not _ _ _ rfl rfl) ?_
      refine AOps_nil ?_
      refine kI h rfl (fun h _ => ?_) (fun h _ => ?_)
      ·refine (ACode_region ?_)
       refine kM 2 rfl ?_
       obtain ⟨r13, hr13, h⟩ := bindO h
       refine kC [] 40 (.vec 1 0) [.vec 0 (rowsD x3), .vec 0 (intsD r13)] rfl Tryz.call86 rfl rfl (spec_l01Own_ac p0 _ hr13) rfl ?_
       refine kM 1 rfl ?_
       refine AOps_buildSlice 42 _ _ _ [_] (intsD ([x2])) _ rfl rfl rfl rfl rfl (by decide) Tryz.underlying29 Tryz.sizeOf2 (zero_of Tryz.typeInfo2 rfl) rfl rfl (intsD_one _) ?_
       obtain ⟨hc14, h⟩ := guardO h
       refine AOps_append 43 _ _ _ _ _ _ _ _ _ _ _ _ rfl rfl rfl rfl rfl rfl rfl Tryz.underlying29 Tryz.type2 rfl rfl rfl (by decide) rfl rfl rfl rfl (intsD_one _) (by rw [intsD_length, intsD_length]; exact hc14) ?_
       rw [intsD_app]
       refine kM 1 rfl ?_
       refine AOps_freezeL [43] 1 1 _ (allc (rfl) (fun _ h => nomatch h)) rfl ?_
       obtain ⟨r15, hr15, h⟩ := bindO h
       refine kC [] 45 (.d (.sl none (rowsD r15))) [.vec 0 (rowsD x3), .gone, .vec 0 (intsD ([x2]))] rfl Tryz.call41 rfl rfl (hself (r13 ++ ([x2])) p1 _ hr15) rfl ?_
       obtain ⟨hc16, h⟩ := guardO h
       refine AOps_append 46 _ _ _ _ _ _ _ _ _ _ _ _ rfl rfl rfl rfl rfl rfl rfl Tryz.underlying45 Tryz.type29 rfl rfl rfl (by decide) rfl rfl rfl rfl (rowsD_one _) (by rw [rowsD_length, rowsD_length]; exact hc16) ?_
       rw [rowsD_app]
       refine kN 1 rfl ?_
       cases h
       exact Weak_trans (Weak_keep 0 hm [0, 1, 5, 6] [0] _ _ rfl rfl rfl) (Weak_reset 0 hm hz [0, 1, 5, 6] _ _ rfl rfl)
      refine ACode_skip ?_
      cases h
      exact Weak_keep 0 hm [0, 1, 5, 6] [0] _ _ rfl rfl rfl
     refine (ACode_region ?_)
     refine kM 1 rfl ?_
     refine AOps_q 20 _ rfl rfl rfl (QOp_add _ _ _ _ _ _ _ rfl rfl rfl) ?_
     refine kN 1 rfl ?_
     exact ⟨k0, _, _, Nat.lt_succ_self _, Weak_keep 0 hm [0, 1, 5, 6] [0] _ _ rfl rfl rfl, _, _, rfl, rfl, h⟩
    refine ACode_exit ?_
    cases h
    exact Weak_keep 0 hm [5] [0] _ _ rfl rfl rfl
  refine kR ?_
  refine kN 2 rfl ?_
  refine ACode_ret ?_
  cases h
  exact ⟨_, _, fun r a w h => ⟨r, h⟩, _, _, [], _, (.cons (ResV_tmp _ _ rfl) .nil), rfl, rfl, rfl, rfl, rfl⟩

-- loop.example/g01362/spec.FindAlike
def spec_FindAlike_l0 (k : Nat) (p0 : Col) (p1 : Col) (r7 : List (List Int)) : Nat → Int → Option (Sum (Unit) (List Int × List Int × Int))
 | 0, _ => none
 | k0 + 1, x8 => (if decide (x8 < (r7.length : Int)) then (if 0 ≤ x8 ∧ x8 < (r7.length : Int) then (spec_l01Turned k p0 (r7.getD x8.toNat [])).bind fun r11 => (spec_l06Between k r11 p1 1).bind fun r12 => (if decide (0 < r12.count) then (if 0 ≤ x8 ∧ x8 < (r7.length : Int) then some (.inr ((r7.getD x8.toNat []), r12.first, 0)) else none) else spec_FindAlike_l0 k p0 p1 r7 k0 (w64 (x8 + 1))) else none) else some (.inl ()))
def spec_FindAlike (k : Nat) (p0 : Col) (p1 : Col) : Option (List Int × List Int × Int) :=
 (((spec_l01Is k p0).bind fun r1 => (if !r1 then some true else (spec_l01Is k p1).bind fun r3 => some (!r3)) : Option (Bool)).bind fun s4 => (if s4 then some (.inr ([], [], 1)) else some (.inl ())) : Option (Sum (Unit) (List Int × List Int × Int))).bind fun os6 => (match os6 with | .inl s6 => (spec_l06Orders k ([] : List Int) p0.k).bind fun r7 => (spec_FindAlike_l0 k p0 p1 r7 k 0 : Option (Sum (Unit) (List Int × List Int × Int))).bind fun os15 => (match os15 with | .inl s15 => some ([], [], 4) | .inr rr => some rr) | .inr rr => some rr)
set_option maxRecDepth 100000 in
theorem spec_FindAlike_ac (k : Nat) (p0 : Col) (p1 : Col) (r : List Int × List Int × Int) (h : spec_FindAlike k p0 p1 = some r) : AC Tryz.prog 13 [.d (.agg (colD p0)), .d (.agg (colD p1))] [] (fun res H' => res = [.d (.sl none (intsD r.1)), .d (.sl none (intsD r.2.1)), iV r.2.2] ∧ H' = []) := by
 refine AC_of_body true Tryz.func13 rfl Tryz.ntmps13 (rvs := [.tmp 4, .tmp 5, .tmp 6]) rfl rfl (fun G hG => ?_)
 have hm : G.H.length = 0 := by rw [hG]; rfl
 have hz : zeroG G.H = true := by rw [hG]; rfl
 unfold spec_FindAlike at h
 refine kR ?_
 refine AOps_boxI 2 _ _ (.agg (colD p0)) (colD p0) rfl (colD_one _) rfl rfl rfl rfl rfl ?_
 refine AOps_boxI 3 _ _ (.agg (colD p1)) (colD p1) rfl (colD_one _) rfl rfl rfl rfl rfl ?_
 refine kN 3 rfl ?_
 refine kO (fun s6 => [(2, .d (.pv (colD p0) 0)), (3, .d (.pv (colD p1) 0))]) (fun s6 => []) h (fun os6 h hks6 => ?_) (fun s6 h => ?_)
 ·refine kB (fun s4 => [(2, .d (.pv (colD p0) 0)), (3, .d (.pv (colD p1) 0)), (17, bV s4)]) (fun s4 => []) h (fun s4 h => ?_) (fun s4 h => ?_)
  ·refine (ACode_region ?_)
   refine AOps_q 10 _ rfl rfl rfl (QOp_loadN_pv _ _ _ _ _ _ rfl Tryz.isAgg26 Tryz.sizeOf26 rfl (colD_all _) (colD_length _)) ?_
   obtain ⟨r1, hr1, h⟩ := bindO h
   refine kC [] 11 (bV r1) [] rfl Tryz.call38 rfl rfl (spec_l01Is_ac k p0 _ hr1) rfl ?_
   refine AOps_q 12 _ rfl rfl rfl (QOp_not _ _ _ rfl rfl) ?_
   refine kM 1 rfl ?_
   refine AOps_case 13 _ rfl (fun hb2 => ?_) (fun hb2 => ?_)
   ·have h := iteT hb2 h
    refine AOps_skip 14 rfl rfl rfl ?_
    refine AOps_skip 15 rfl rfl rfl ?_
    refine AOps_skip 16 rfl rfl rfl ?_
    refine kN 1 rfl ?_
    cases h
    exact Weak_keep 0 hm [2, 3, 17] [] _ _ rfl rfl rfl
   have h := iteF hb2 h
   refine AOps_q 14 _ rfl rfl rfl (QOp_loadN_pv _ _ _ _ _ _ rfl Tryz.isAgg26 Tryz.sizeOf26 rfl (colD_all _) (colD_length _)) ?_
   obtain ⟨r3, hr3, h⟩ := bindO h
   refine kC [] 15 (bV r3) [] rfl Tryz.call38 rfl rfl (spec_l01Is_ac k p1 _ hr3) rfl ?_
   refine AOps_q 16 _ rfl rfl rfl (QOp_not _ _ _ rfl rfl) ?_
   refine kN 1 rfl ?_
   cases h
   exact Weak_keep 0 hm [2, 3, 17] [] _ _ rfl rfl rfl
  refine kI h rfl (fun h _ => ?_) (fun h _ => ?_)
  ·refine kR ?_
   refine kN 3 rfl ?_
   refine ACode_ret ?_
   cases h
   have h := hks6
   cases h
   exact ⟨_, _, fun r a w h => ⟨r, h⟩, _, _, [], _, (.cons (ResV_tmp _ _ rfl) (.cons (ResV_tmp _ _ rfl) (.cons (ResV_tmp _ _ rfl) .nil))), rfl, rfl, rfl, rfl, rfl⟩
  refine ACode_skip ?_
  cases h
  exact ⟨_, rfl, Weak_keep 0 hm [2, 3] [] _ _ rfl rfl rfl⟩
 refine kR ?_
 refine AOps_buildSlice 18 _ _ _ [] (intsD ([] : List Int)) _ rfl rfl rfl rfl rfl (by decide) Tryz.underlying29 Tryz.sizeOf2 (zero_of Tryz.typeInfo2 rfl) rfl rfl (intsD_one _) ?_
 refine AOps_q 19 _ rfl rfl rfl (QOp_fieldAddr_pv _ _ _ _ _ 1 _ _ rfl Tryz.underlying26 rfl _ Tryz.sizeOf2 rfl rfl) ?_
 refine AOps_q 20 _ rfl rfl rfl (QOp_load_pv _ _ _ _ _ rfl Tryz.isAgg2 rfl rfl) ?_
 refine AOps_freezeL [18] 0 0 _ (allc (rfl) (fun _ h => nomatch h)) rfl ?_
 obtain ⟨r7, hr7, h⟩ := bindO h
 refine kC [] 21 (.d (.sl none (rowsD r7))) [.gone] rfl Tryz.call41 rfl rfl (spec_l06Orders_ac k ([] : List Int) p0.k _ hr7) rfl ?_
 refine kN 1 rfl ?_
 refine kO (fun s15 => []) (fun s15 => []) h (fun os15 h hks15 => ?_) (fun s15 h => ?_)
 ·refine kR ?_
  refine kN 1 rfl ?_
  refine ACode_block ?_
  refine ACode_loopW (fun k0 E H => ∃ (x8 : Int), E = [(2, .d (.pv (colD p0) 0)), (3, .d (.pv (colD p1) 0)), (7, .d (.sl none (rowsD r7))), (8, iV x8)] ∧ H = [] ∧ spec_FindAlike_l0 k p0 p1 r7 k0 x8 = some os15) k _ _ (Weak_keep 0 hm [2, 3, 7, 8] [] _ _ rfl rfl rfl) ⟨_, rfl, rfl, h⟩ ?_
  clear h
  rintro k0 E H ⟨x8, rfl, rfl, h⟩
  cases k0 with
  | zero => cases (show (none : Option (Sum (Unit) (List Int × List Int × Int))) = some _ from h)
  | succ k0 =>
   rw [spec_FindAlike_l0] at h
   refine ACode_seq ?_
   refine kR ?_
   refine kM 2 rfl ?_
   refine AOps_q 24 _ rfl rfl rfl (QOp_len_sl _ _ _ _ _ _ _ (rowsD_length _) rfl rfl rfl rfl Tryz.underlying45 rfl) ?_
   refine AOps_q 25 _ rfl rfl rfl (QOp_lss _ _ _ _ _ _ _ rfl rfl rfl) ?_
   refine AOps_nil ?_
   refine kI h rfl (fun h _ => ?_) (fun h _ => ?_)
   ·refine ACode_skip ?_
    refine ACode_seq ?_
    refine ACode_block ?_
    obtain ⟨hc10, h⟩ := guardO h
    obtain ⟨r11, hr11, h⟩ := bindO h
    obtain ⟨r12, hr12, h⟩ := bindO h
    refine ACode_seqJ (fun E' H' => Weak 49 G E' H' [(2, .d (.pv (colD p0) 0)), (3, .d (.pv (colD p1) 0)), (7, .d (.sl none (rowsD r7))), (8, iV x8), (9, .ptr 0 0)] [.box (seaD r12)]) ?_ ?_
    ·refine ACode_any mixed ?_
     refine AAny_q 0 28 _ rfl (by kernel_rfl) rfl rfl rfl (QOp_loadN_pv _ _ _ _ _ _ rfl Tryz.isAgg26 Tryz.sizeOf26 rfl (colD_all _) (colD_length _)) ?_
     refine AAny_q 1 29 _ rfl (by kernel_rfl) rfl rfl rfl (QOp_move _ _ rfl rfl) ?_
     refine AAny_q 2 30 _ rfl (by kernel_rfl) rfl rfl rfl (QOp_move _ _ rfl rfl) ?_
     refine AAny_q 3 31 _ rfl (by kernel_rfl) rfl rfl rfl (QOp_indexAddr_sl _ _ _ _ _ _ _ _ rfl Tryz.underlying45 Tryz.sizeOf29 hc10.1 (by rw [rowsD_length]; exact hc10.2) rfl rfl) ?_
     refine AAny_q 4 32 _ rfl (by kernel_rfl) rfl rfl rfl (QOp_load_pv _ _ _ _ _ rfl Tryz.isAgg29 rfl (rowsD_get _ _ [] (by omega))) ?_
     refine AAny_q 6 34 _ rfl (by kernel_rfl) rfl rfl rfl (QOp_loadN_pv _ _ _ _ _ _ rfl Tryz.isAgg26 Tryz.sizeOf26 rfl (colD_all _) (colD_length _)) ?_
     refine AAny_all [5] (by kernel_rfl) rfl (allc ?_ (fun _ h => nomatch h))
     refine AStep_callN 5 33 _ _ _ _ _ _ _ _ _ rfl rfl rfl rfl rfl rfl rfl rfl Tryz.call42 rfl rfl rfl (spec_l01Turned_ac k p0 (r7.getD x8.toNat []) _ hr11) ?_
     rintro _ _ ⟨rfl, rfl⟩
     refine ⟨(fun _ h => nomatch h), (allc (trivial) (fun _ h => nomatch h)), AAny_as 33 (v' := .d (.agg (colD r11))) (H' := []) rfl rfl ?_⟩
     refine AAny_all [7] (by kernel_rfl) rfl (allc ?_ (fun _ h => nomatch h))
     refine AStep_callN 7 35 _ _ _ _ _ _ _ _ _ rfl rfl rfl rfl rfl rfl rfl rfl Tryz.call39 rfl rfl rfl (spec_l06Between_ac k r11 p1 1 _ hr12) ?_
     rintro _ _ ⟨rfl, rfl⟩
     refine ⟨(allc (fun _ _ => trivial) (fun _ h => nomatch h)), (allc (trivial) (fun _ h => nomatch h)), AAny_as 35 (v' := .ptr 0 0) (H' := [.box (seaD r12)]) rfl rfl ?_⟩
     refine AAny_q 8 9 _ rfl (by kernel_rfl) rfl rfl rfl (QOp_assign _ _ rfl rfl) ?_
     refine AAny_done (by kernel_rfl) ?_
     exact Weak_keep 0 hm [2, 3, 7, 8, 9] [0] _ _ rfl rfl rfl
    intro E' H' hw
    refine ACode_weak hw ?_
    refine kR ?_
    refine kM 1 rfl ?_
    refine AOps_q 37 _ rfl rfl rfl (QOp_nilCheck_ptr _ _ _ _ rfl rfl rfl rfl) ?_
    refine AOps_q 38 _ rfl rfl rfl (QOp_fieldAddr_ptr _ _ _ _ _ _ 279 _ _ rfl Tryz.underlying62 rfl _ Tryz.sizeOf2 rfl rfl rfl rfl) ?_
    refine AOps_q 39 _ rfl rfl rfl (QOp_load_ptr _ _ _ _ _ _ rfl Tryz.isAgg2 rfl rfl (seaD_c _)) ?_
    refine AOps_q 40 _ rfl rfl rfl (QOp_gtr _ _ _ _ _ _ _ rfl rfl rfl) ?_
    refine AOps_nil ?_
    refine kI h rfl (fun h _ => ?_) (fun h _ => ?_)
    ·refine ACode_seq (ACode_quiet mixed (by kernel_rfl) ?_)
     refine kQ 2 rfl ?_
     obtain ⟨hc14, h⟩ := guardO h
     refine AQ_q 43 _ rfl rfl rfl (QOp_indexAddr_sl _ _ _ _ _ _ _ _ rfl Tryz.underlying45 Tryz.sizeOf29 hc14.1 (by rw [rowsD_length]; exact hc14.2) rfl rfl) ?_
     refine AQ_q 44 _ rfl rfl rfl (QOp_load_pv _ _ _ _ _ rfl Tryz.isAgg29 rfl (rowsD_get _ _ [] (by omega))) ?_
     refine kQ 1 rfl ?_
     refine AQ_q 46 _ rfl rfl rfl (QOp_nilCheck_ptr _ _ _ _ rfl rfl rfl rfl) ?_
     refine AQ_q 47 _ rfl rfl rfl (QOp_fieldAddr_ptr _ _ _ _ _ _ 280 _ _ rfl Tryz.underlying62 rfl _ Tryz.sizeOf29 rfl rfl rfl rfl) ?_
     refine AQ_q 48 _ rfl rfl rfl (QOp_load_ptr _ _ _ _ _ _ rfl Tryz.isAgg29 rfl rfl (seaD_f _)) ?_
     refine kQ 3 rfl ?_
     refine AQ_nil ?_
     refine ACode_ret ?_
     cases h
     have h := hks15
     cases h
     exact ⟨_, _, fun r a w h => ⟨r, h⟩, _, _, [], _, (.cons (ResV_tmp _ _ rfl) (.cons (ResV_tmp _ _ rfl) (.cons (ResV_tmp _ _ rfl) .nil))), rfl, rfl, rfl, rfl, rfl⟩
    refine ACode_skip ?_
    refine (ACode_region ?_)
    refine kM 1 rfl ?_
    refine AOps_q 27 _ rfl rfl rfl (QOp_add _ _ _ _ _ _ _ rfl rfl rfl) ?_
    refine kN 1 rfl ?_
    exact ⟨k0, _, _, Nat.lt_succ_self _, Weak_keep 0 hm [2, 3, 7, 8] [] _ _ rfl rfl rfl, _, rfl, rfl, h⟩
   refine ACode_exit ?_
   cases h
   exact ⟨_, rfl, Weak_keep 0 hm [] [] _ _ rfl rfl rfl⟩
 refine kR ?_
 refine kN 3 rfl ?_
 refine ACode_ret ?_
 cases h
 exact ⟨_, _, fun r a w h => ⟨r, h⟩, _, _, [], _, (.cons (ResV_tmp _ _ rfl) (.cons (ResV_tmp _ _ rfl) (.cons (ResV_tmp _ _ rfl) .nil))), rfl, rfl, rfl, rfl, rfl⟩

-- loop.example/g01362/spec.DrawLeadsTo
def spec_DrawLeadsTo (k : Nat) (p0 : List UInt8) : Option (Col × Col × List Int) :=
 (spec_l01From k p0).bind fun r1 => (spec_l06Draw k r1).bind fun r2 => (spec_l01DrawOrder k r2.2 (if 17 < (if r2.1.p < 1 then 1 else r2.1.p) then 17 else (if r2.1.p < 1 then 1 else r2.1.p))).bind fun r3 => (((spec_l01Is k r2.1).bind fun r4 => (if r4 then (spec_l01Next r3.2 2).bind fun r6 => some (decide (r6.1 = 0), r6.2) else some (false, r3.2)) : Option (Bool × Src)).bind fun s7 => (if s7.1 then (spec_l01Renamed k r2.1 r3.1).bind fun r9 => some (s7.2, r9) else some (s7.2, r2.1)) : Option (Src × Col)).bind fun s10 => ((spec_l01Next s10.1 24).bind fun r11 => (if decide (r11.1 = 0) then (if r3.1.length + ([0]).length ≤ 1099511627776 then some (r3.1 ++ ([0])) else none) else (if decide (r11.1 = 1) then (spec_l01Pick r11.2 ([(-1), 17, 1])).bind fun r15 => (if 0 ≤ (0 : Int) ∧ (0 : Int) < (r3.1.length : Int) then some (r3.1.set (0 : Int).toNat r15.1) else none) else some r3.1)) : Option (List Int)).bind fun s17 => some (r2.1, s10.2, s17)
set_option maxRecDepth 100000 in
theorem spec_DrawLeadsTo_ac (k : Nat) (p0 : List UInt8) (r : Col × Col × List Int) (h : spec_DrawLeadsTo k p0 = some r) : AC Tryz.prog 14 [.d (.sl none (bysD p0))] [] (fun res H' => res = [.d (.agg (colD r.1)), .d (.agg (colD r.2.1)), .vec 0 0] ∧ H' = [.vec 0 (intsD r.2.2)]) := by
 refine AC_of_body true Tryz.func14 rfl Tryz.ntmps14 (rvs := [.cell 2 26, .cell 3 26, .tmp 4]) rfl rfl (fun G hG => ?_)
 have hm : G.H.length = 0 := by rw [hG]; rfl
 have hz : zeroG G.H = true := by rw [hG]; rfl
 unfold spec_DrawLeadsTo at h
 refine kR ?_
 refine AOps_alloc 2 _ _ (colD Col.zero) (zero_of Tryz.typeInfo26 rfl) (by rfl) rfl rfl rfl rfl ?_
 refine AOps_alloc 3 _ _ (colD Col.zero) (zero_of Tryz.typeInfo26 rfl) (by rfl) rfl rfl rfl rfl ?_
 refine kN 1 rfl ?_
 refine kR ?_
 refine kM 1 rfl ?_
 obtain ⟨r1, hr1, h⟩ := bindO h
 refine kC [] 10 (.ptr 2 0) [.box (colD Col.zero), .box (colD Col.zero), .box (srcD r1)] rfl Tryz.call43 rfl rfl (spec_l01From_ac k p0 _ hr1) rfl ?_
 refine kN 1 rfl ?_
 refine kR ?_
 refine kM 1 rfl ?_
 obtain ⟨r2, hr2, h⟩ := bindO h
 refine kC [2] 12 (.d (.agg (colD r2.1))) [.box (colD Col.zero), .box (colD Col.zero), .box (srcD r2.2)] rfl Tryz.call44 rfl rfl (spec_l06Draw_ac k r1 _ hr2) rfl ?_
 refine AOps_alloc 6 _ _ (colD Col.zero) (zero_of Tryz.typeInfo26 rfl) (by rfl) rfl rfl rfl rfl ?_
 refine AOps_store _ _ _ _ _ _ (colD _) _ _ rfl rfl rfl rfl rfl rfl rfl (colD_one _) (by rw [colD_length]; exact Tryz.sizeOf26) (by rw [colD_length, colD_length]; decide) (colD_whole _ _) ?_
 refine AOps_nil ?_
 refine kR ?_
 refine kM 1 rfl ?_
 refine AOps_q 14 _ rfl rfl rfl (QOp_fieldAddr_ptr _ _ _ _ _ _ 0 _ _ rfl Tryz.underlying26 rfl _ Tryz.sizeOf2 rfl rfl rfl rfl) ?_
 refine AOps_q 15 _ rfl rfl rfl (QOp_load_ptr _ _ _ _ _ _ rfl Tryz.isAgg2 rfl rfl rfl) ?_
 refine AOps_q 16 _ rfl rfl rfl (QOp_max _ _ _ _ _ _ rfl rfl rfl rfl rfl) ?_
 refine AOps_q 17 _ rfl rfl rfl (QOp_min _ _ _ _ _ _ rfl rfl rfl rfl rfl) ?_
 obtain ⟨r3, hr3, h⟩ := bindO h
 refine kC [2] 18 (.vec 4 0) [.box (colD Col.zero), .box (colD Col.zero), .box (srcD r3.2), .box (colD r2.1), .vec 0 (intsD r3.1)] rfl Tryz.call45 rfl rfl (spec_l01DrawOrder_ac k r2.2 (if 17 < (if r2.1.p < 1 then 1 else r2.1.p) then 17 else (if r2.1.p < 1 then 1 else r2.1.p)) _ hr3) rfl ?_
 refine kN 1 rfl ?_
 refine kR ?_
 refine AOps_q 19 _ rfl rfl rfl (QOp_loadN_ptr _ _ _ _ _ _ _ rfl Tryz.isAgg26 Tryz.sizeOf26 rfl rfl (colD_all _) (colD_length _)) ?_
 refine AOps_alloc 8 _ _ (colD Col.zero) (zero_of Tryz.typeInfo26 rfl) (by rfl) rfl rfl rfl rfl ?_
 refine AOps_store _ _ _ _ _ _ (colD _) _ _ rfl rfl rfl rfl rfl rfl rfl (colD_one _) (by rw [colD_length]; exact Tryz.sizeOf26) (by rw [colD_length, colD_length]; decide) (colD_whole _ _) ?_
 refine AOps_nil ?_
 refine kB (fun s10 => [(2, .ptr 0 0), (3, .ptr 1 0), (5, .ptr 2 0), (6, .ptr 3 0), (7, .vec 4 0), (8, .ptr 5 0)]) (fun s10 => [.box (colD Col.zero), .box (colD Col.zero), .box (srcD s10.1), .box (colD r2.1), .vec 0 (intsD r3.1), .box (colD s10.2)]) h (fun s10 h => ?_) (fun s10 h => ?_)
 ·refine kB (fun s7 => [(2, .ptr 0 0), (3, .ptr 1 0), (5, .ptr 2 0), (6, .ptr 3 0), (7, .vec 4 0), (8, .ptr 5 0), (26, bV s7.1)]) (fun s7 => [.box (colD Col.zero), .box (colD Col.zero), .box (srcD s7.2), .box (colD r2.1), .vec 0 (intsD r3.1), .box (colD r2.1)]) h (fun s7 h => ?_) (fun s7 h => ?_)
  ·refine (ACode_region ?_)
   refine AOps_q 20 _ rfl rfl rfl (QOp_loadN_ptr _ _ _ _ _ _ _ rfl Tryz.isAgg26 Tryz.sizeOf26 rfl rfl (colD_all _) (colD_length _)) ?_
   obtain ⟨r4, hr4, h⟩ := bindO h
   refine kC [] 21 (bV r4) [.box (colD Col.zero), .box (colD Col.zero), .box (srcD r3.2), .box (colD r2.1), .vec 0 (intsD r3.1), .box (colD r2.1)] rfl Tryz.call38 rfl rfl (spec_l01Is_ac k r2.1 _ hr4) rfl ?_
   refine kM 1 rfl ?_
   refine AOps_case 22 _ rfl (fun hb5 => ?_) (fun hb5 => ?_)
   ·have h := iteT hb5 h
    refine kM 1 rfl ?_
    obtain ⟨r6, hr6, h⟩ := bindO h
    refine kC [2] 24 (iV r6.1) [.box (colD Col.zero), .box (colD Col.zero), .box (srcD r6.2), .box (colD r2.1), .vec 0 (intsD r3.1), .box (colD r2.1)] rfl Tryz.call46 rfl rfl (spec_l01Next_ac r3.2 2 _ hr6) rfl ?_
    refine AOps_q 25 _ rfl rfl rfl (QOp_eql _ _ _ _ _ _ _ rfl rfl rfl) ?_
    refine kN 1 rfl ?_
    cases h
    exact Weak_keep 0 hm [2, 3, 5, 6, 7, 8, 26] [0, 1, 2, 3, 4, 5] _ _ rfl rfl rfl
   have h := iteF hb5 h
   refine AOps_skip 23 rfl rfl rfl ?_
   refine AOps_skip 24 rfl rfl rfl ?_
   refine AOps_skip 25 rfl rfl rfl ?_
   refine kN 1 rfl ?_
   cases h
   exact Weak_keep 0 hm [2, 3, 5, 6, 7, 8, 26] [0, 1, 2, 3, 4, 5] _ _ rfl rfl rfl
  refine kI h rfl (fun h _ => ?_) (fun h _ => ?_)
  ·refine (ACode_region ?_)
   refine AOps_q 27 _ rfl rfl rfl (QOp_loadN_ptr _ _ _ _ _ _ _ rfl Tryz.isAgg26 Tryz.sizeOf26 rfl rfl (colD_all _) (colD_length _)) ?_
   refine kM 1 rfl ?_
   obtain ⟨r9, hr9, h⟩ := bindO h
   refine AOps_callL [] 29 _ _ _ _ _ _ _ _ _ _ rfl rfl rfl rfl rfl rfl rfl Tryz.call47 rfl (nodupB_sound _ rfl) rfl rfl rfl (spec_l01Renamed_ac k r2.1 r3.1 _ hr9) ?_
   rintro _ _ ⟨rfl, rfl⟩
   refine ⟨(fun _ h => nomatch h), (allc (flat_agg (colD_flat _)) (fun _ h => nomatch h)), AOps_as 29 (v' := .d (.agg (colD r9))) (H' := [.box (colD Col.zero), .box (colD Col.zero), .box (srcD s7.2), .box (colD r2.1), .vec 0 (intsD r3.1), .box (colD r2.1)]) rfl rfl ?_⟩
   refine AOps_store _ _ _ _ _ _ (colD _) _ _ rfl rfl rfl rfl rfl rfl rfl (colD_one _) (by rw [colD_length]; exact Tryz.sizeOf26) (by rw [colD_length, colD_length]; decide) (colD_whole _ _) ?_
   refine AOps_nil ?_
   cases h
   exact Weak_keep 0 hm [2, 3, 5, 6, 7, 8] [0, 1, 2, 3, 4, 5] _ _ rfl rfl rfl
  refine ACode_skip ?_
  cases h
  exact Weak_keep 0 hm [2, 3, 5, 6, 7, 8] [0, 1, 2, 3, 4, 5] _ _ rfl rfl rfl
 refine kB (fun s17 => [(2, .ptr 0 0), (3, .ptr 1 0), (6, .ptr 2 0), (7, .vec 3 0), (8, .ptr 4 0)]) (fun s17 => [.box (colD Col.zero), .box (colD Col.zero), .box (colD r2.1), .vec 0 (intsD s17), .box (colD s10.2)]) h (fun s17 h => ?_) (fun s17 h => ?_)
 ·refine kR ?_
  refine kM 1 rfl ?_
  obtain ⟨r11, hr11, h⟩ := bindO h
  refine kC [2] 31 (iV r11.1) [.box (colD Col.zero), .box (colD Col.zero), .box (srcD r11.2), .box (colD r2.1), .vec 0 (intsD r3.1), .box (colD s10.2)] rfl Tryz.call46 rfl rfl (spec_l01Next_ac s10.1 24 _ hr11) rfl ?_
  refine AOps_nil ?_
  refine ACode_block ?_
  refine kR ?_
  refine AOps_q 33 _ rfl rfl rfl (QOp_eql _ _ _ _ _ _ _ rfl rfl rfl) ?_
  refine kN 1 rfl ?_
  refine kI h rfl (fun h _ => ?_) (fun h _ => ?_)
  ·refine (ACode_region ?_)
   refine kM 1 rfl ?_
   refine AOps_buildSlice 35 _ _ _ [_] (intsD ([0])) _ rfl rfl rfl rfl rfl (by decide) Tryz.underlying29 Tryz.sizeOf2 (zero_of Tryz.typeInfo2 rfl) rfl rfl (intsD_one _) ?_
   obtain ⟨hc13, h⟩ := guardO h
   refine AOps_append 36 _ _ _ _ _ _ _ _ _ _ _ _ rfl rfl rfl rfl rfl rfl rfl Tryz.underlying29 Tryz.type2 rfl rfl rfl (by decide) rfl rfl rfl rfl (intsD_one _) (by rw [intsD_length, intsD_length]; exact hc13) ?_
   rw [intsD_app]
   refine kN 1 rfl ?_
   cases h
   exact Weak_trans (Weak_keep 0 hm [2, 3, 6, 7, 8] [0, 1, 3, 4, 5] _ _ rfl rfl rfl) (Weak_reset 0 hm hz [2, 3, 6, 7, 8] _ _ rfl rfl)
  refine kR ?_
  refine AOps_q 38 _ rfl rfl rfl (QOp_eql _ _ _ _ _ _ _ rfl rfl rfl) ?_
  refine kN 1 rfl ?_
  refine kI h rfl (fun h _ => ?_) (fun h _ => ?_)
  ·refine (ACode_region ?_)
   refine kM 2 rfl ?_
   refine AOps_buildSlice 41 _ _ _ [_, _, _] (intsD ([(-1), 17, 1])) _ rfl rfl rfl rfl rfl (by decide) Tryz.underlying29 Tryz.sizeOf2 (zero_of Tryz.typeInfo2 rfl) rfl rfl (intsD_one _) ?_
   refine AOps_freezeL [41] 6 0 _ (allc (rfl) (fun _ h => nomatch h)) rfl ?_
   obtain ⟨r15, hr15, h⟩ := bindO h
   refine kC [2] 42 (iV r15.1) [.box (colD Col.zero), .box (colD Col.zero), .box (srcD r15.2), .box (colD r2.1), .vec 0 (intsD r3.1), .box (colD s10.2), .gone] rfl Tryz.call48 rfl rfl (spec_l01Pick_ac r11.2 ([(-1), 17, 1]) _ hr15) rfl ?_
   obtain ⟨hc16, h⟩ := guardO h
   refine AOps_q 43 _ rfl rfl rfl (QOp_indexAddr_vec _ _ _ _ _ _ _ _ _ rfl Tryz.underlying29 Tryz.sizeOf2 hc16.1 (by rw [intsD_length]; exact hc16.2) rfl rfl rfl) ?_
   refine AOps_store_eptr _ _ _ _ _ _ (intsD r3.1) _ rfl rfl rfl rfl rfl rfl rfl Tryz.sizeOf2 (by rw [intsD_length]; omega) ?_
   rw [intsD_set]
   refine AOps_nil ?_
   cases h
   exact Weak_keep 0 hm [2, 3, 6, 7, 8] [0, 1, 3, 4, 5] _ _ rfl rfl rfl
  refine ACode_skip ?_
  cases h
  exact Weak_keep 0 hm [2, 3, 6, 7, 8] [0, 1, 3, 4, 5] _ _ rfl rfl rfl
 refine ACode_seq (ACode_reg [(2, .ptr 0 0), (3, .ptr 1 0), (4, .vec 2 0)] [.box (colD r2.1), .box (colD s10.2), .vec 0 (intsD s17)] ?_ ?_)
 ·refine ACode_anyU mixed ?_
  refine AU_cut 2 #[true, true, true, true, false, false] [(2, .ptr 0 0), (3, .ptr 1 0), (45, .d (.agg (colD s10.2))), (46, .vec 2 0)] [.box (colD r2.1), .box (colD Col.zero), .vec 0 (intsD s17)] ?_ (fun hS0 => ?_)
  ·refine AU_one 4 (by kernel_rfl) rfl rfl ?_
   refine AOps_store _ _ _ _ _ _ (colD _) _ _ rfl rfl rfl rfl rfl rfl rfl (colD_one _) (by rw [colD_length]; exact Tryz.sizeOf26) (by rw [colD_length, colD_length]; decide) (colD_whole _ _) ?_
   refine AOps_nil ?_
   refine AU_u 5 4 _ rfl (by kernel_rfl) rfl rfl rfl (UOp_assign _ _ rfl rfl) ?_
   refine AU_done (by kernel_rfl) ?_
   exact ⟨rfl, Weak_keep 0 hm [2, 3, 4] [0, 1, 2] _ _ rfl rfl rfl⟩
  refine AU_cut 3 #[true, true, true, false, false, false] [(2, .ptr 0 0), (3, .ptr 1 0), (44, .d (.agg (colD r2.1))), (45, .d (.agg (colD s10.2))), (46, .vec 2 0)] [.box (colD Col.zero), .box (colD Col.zero), .vec 0 (intsD s17)] ?_ (fun hS1 => ?_)
  ·refine AU_one 3 (by kernel_rfl) rfl rfl ?_
   refine AOps_store _ _ _ _ _ _ (colD _) _ _ rfl rfl rfl rfl rfl rfl rfl (colD_one _) (by rw [colD_length]; exact Tryz.sizeOf26) (by rw [colD_length, colD_length]; decide) (colD_whole _ _) ?_
   refine AOps_nil ?_
   exact AU_to (by kernel_rfl) hS0 (Weak_keep 0 hm [2, 3, 45, 46] [0, 1, 2] _ _ rfl rfl rfl)
  refine AU_u 2 46 _ rfl (by kernel_rfl) rfl rfl rfl (UOp_move _ _ rfl rfl) ?_
  refine AU_all [0, 1] (by kernel_rfl) rfl (allc ?_ (allc ?_ (fun _ h => nomatch h)))
  ·refine US_of 0 rfl rfl ?_
   refine AOps_q 44 _ rfl rfl rfl (QOp_loadN_ptr _ _ _ _ _ _ _ rfl Tryz.isAgg26 Tryz.sizeOf26 rfl rfl (colD_all _) (colD_length _)) ?_
   refine AOps_nil ?_
   refine AU_all [1, 3] (by kernel_rfl) rfl (allc ?_ (allc ?_ (fun _ h => nomatch h)))
   ·refine US_of 1 rfl rfl ?_
    refine AOps_q 45 _ rfl rfl rfl (QOp_loadN_ptr _ _ _ _ _ _ _ rfl Tryz.isAgg26 Tryz.sizeOf26 rfl rfl (colD_all _) (colD_length _)) ?_
    refine AOps_nil ?_
    exact AU_to (by kernel_rfl) hS1 (Weak_keep 0 hm [2, 3, 44, 45, 46] [0, 1, 3] _ _ rfl rfl rfl)
   refine US_of 3 rfl rfl ?_
   refine AOps_store _ _ _ _ _ _ (colD _) _ _ rfl rfl rfl rfl rfl rfl rfl (colD_one _) (by rw [colD_length]; exact Tryz.sizeOf26) (by rw [colD_length, colD_length]; decide) (colD_whole _ _) ?_
   refine AOps_nil ?_
   refine AU_one 1 (by kernel_rfl) rfl rfl ?_
   refine AOps_q 45 _ rfl rfl rfl (QOp_loadN_ptr _ _ _ _ _ _ _ rfl Tryz.isAgg26 Tryz.sizeOf26 rfl rfl (colD_all _) (colD_length _)) ?_
   refine AOps_nil ?_
   exact AU_to (by kernel_rfl) hS0 (Weak_keep 0 hm [2, 3, 45, 46] [0, 1, 3] _ _ rfl rfl rfl)
  refine US_of 1 rfl rfl ?_
  refine AOps_q 45 _ rfl rfl rfl (QOp_loadN_ptr _ _ _ _ _ _ _ rfl Tryz.isAgg26 Tryz.sizeOf26 rfl rfl (colD_all _) (colD_length _)) ?_
  refine AOps_nil ?_
  refine AU_one 0 (by kernel_rfl) rfl rfl ?_
  refine AOps_q 44 _ rfl rfl rfl (QOp_loadN_ptr _ _ _ _ _ _ _ rfl Tryz.isAgg26 Tryz.sizeOf26 rfl rfl (colD_all _) (colD_length _)) ?_
  refine AOps_nil ?_
  exact AU_to (by kernel_rfl) hS1 (Weak_keep 0 hm [2, 3, 44, 45, 46] [0, 1, 3] _ _ rfl rfl rfl)
 refine ACode_ret ?_
 cases h
 exact ⟨_, _, Weak_reset 0 hm hz [2, 3, 4] _ _ rfl rfl, _, _, [2], _, (.cons (ResV_agg _ _ _ _ _ _ Tryz.isAgg26 Tryz.sizeOf26 rfl rfl (colD_take _) (colD_length _)) (.cons (ResV_agg _ _ _ _ _ _ Tryz.isAgg26 Tryz.sizeOf26 rfl rfl (colD_take _) (colD_length _)) (.cons (ResV_tmp _ _ rfl) .nil))), rfl, rfl, rfl, rfl, rfl⟩

-- loop.example/g01362/impl.isOrder
def impl_isOrder_l0 (r2 : List Int) : Nat → Int → Option (Sum (Unit) (Bool))
 | 0, _ => none
 | k0 + 1, x3 => (if decide (x3 < (r2.length : Int)) then (if 0 ≤ x3 ∧ x3 < (r2.length : Int) then (if !decide (x3 = (r2.getD x3.toNat 0)) then some (.inr false) else impl_isOrder_l0 r2 k0 (w64 (x3 + 1))) else none) else some (.inl ()))
def impl_isOrder (k : Nat) (p0 : List Int) (p1 : Int) : Option (Bool) :=
 ((sortedI p0).bind fun r2 => impl_isOrder_l0 r2 k 0 : Option (Sum (Unit) (Bool))).bind fun os7 => (match os7 with | .inl s7 => some (decide ((impl_size p0) = p1)) | .inr rr => some rr)
set_option maxRecDepth 100000 in
theorem impl_isOrder_ac (k : Nat) (p0 : List Int) (p1 : Int) (r : Bool) (h : impl_isOrder k p0 p1 = some r) : AC Tryz.prog 49 [.d (.sl none (intsD p0)), iV p1] [] (fun res H' => res = [bV r] ∧ H' = []) := by
 refine AC_of_body true Tryz.func49 rfl Tryz.ntmps49 (rvs := [.tmp 4]) rfl rfl (fun G hG => ?_)
 have hm : G.H.length = 0 := by rw [hG]; rfl
 have hz : zeroG G.H = true := by rw [hG]; rfl
 unfold impl_isOrder at h
 refine kR ?_
 refine kN 1 rfl ?_
 refine kO (fun s7 => [(0, .d (.sl none (intsD p0))), (1, iV p1)]) (fun s7 => []) h (fun os7 h hks7 => ?_) (fun s7 h => ?_)
 ·refine kR ?_
  refine kM 1 rfl ?_
  refine kC [] 8 (.d (.clo 115 [.pv ([.sl none (intsD p0)]) 0])) [] rfl Tryz.call92 rfl rfl (values_ac p0) rfl ?_
  obtain ⟨r2, hr2, h⟩ := bindO h
  refine kC [] 9 (.d (.sl none (intsD r2))) [] rfl Tryz.call91 rfl rfl (sorted_ac p0 _ hr2) rfl ?_
  refine AOps_q 10 _ rfl rfl rfl (QOp_len_sl _ _ _ _ _ _ _ (intsD_length _) rfl rfl rfl rfl Tryz.underlying29 rfl) ?_
  refine kN 1 rfl ?_
  refine ACode_block ?_
  refine ACode_loopW (fun k0 E H => ∃ (x3 : Int), E = [(0, .d (.sl none (intsD p0))), (1, iV p1), (9, .d (.sl none (intsD r2))), (10, iV (r2.length : Int)), (11, iV x3)] ∧ H = [] ∧ impl_isOrder_l0 r2 k0 x3 = some os7) k _ _ (Weak_keep 0 hm [0, 1, 9, 10, 11] [] _ _ rfl rfl rfl) ⟨_, rfl, rfl, h⟩ ?_
  clear h
  rintro k0 E H ⟨x3, rfl, rfl, h⟩
  cases k0 with
  | zero => cases (show (none : Option (Sum (Unit) (Bool))) = some _ from h)
  | succ k0 =>
   rw [impl_isOrder_l0] at h
   refine kR ?_
   refine AOps_q 12 _ rfl rfl rfl (QOp_lss _ _ _ _ _ _ _ rfl rfl rfl) ?_
   refine AOps_nil ?_
   refine ACode_seq ?_
   refine kI h rfl (fun h _ => ?_) (fun h _ => ?_)
   ·refine ACode_skip ?_
    refine ACode_seq ?_
    refine ACode_block ?_
    refine kR ?_
    refine kM 1 rfl ?_
    obtain ⟨hc5, h⟩ := guardO h
    refine AOps_q 14 _ rfl rfl rfl (QOp_indexAddr_sl _ _ _ _ _ _ _ _ rfl Tryz.underlying29 Tryz.sizeOf2 hc5.1 (by rw [intsD_length]; exact hc5.2) rfl rfl) ?_
    refine AOps_q 15 _ rfl rfl rfl (QOp_load_pv _ _ _ _ _ rfl Tryz.isAgg2 rfl (intsD_get _ _ 0 (by omega))) ?_
    refine kN 2 rfl ?_
    refine kR ?_
    refine kM 2 rfl ?_
    refine AOps_q 18 _ rfl rfl rfl (QOp_neq _ _ _ _ _ _ _ rfl rfl rfl) ?_
    refine AOps_nil ?_
    refine kI h rfl (fun h _ => ?_) (fun h _ => ?_)
    ·refine kR ?_
     refine kN 1 rfl ?_
     refine ACode_ret ?_
     cases h
     have h := hks7
     cases h
     exact ⟨_, _, fun r a w h => ⟨r, h⟩, _, _, [], _, (.cons (ResV_tmp _ _ rfl) .nil), rfl, rfl, rfl, rfl, rfl⟩
    refine ACode_skip ?_
    refine (ACode_region ?_)
    refine AOps_q 19 _ rfl rfl rfl (QOp_add _ _ _ _ _ _ _ rfl rfl rfl) ?_
    refine kN 1 rfl ?_
    exact ⟨k0, _, _, Nat.lt_succ_self _, Weak_keep 0 hm [0, 1, 9, 10, 11] [] _ _ rfl rfl rfl, _, rfl, rfl, h⟩
   refine ACode_exit ?_
   cases h
   exact ⟨_, rfl, Weak_keep 0 hm [0, 1] [] _ _ rfl rfl rfl⟩
 refine kR ?_
 refine kM 1 rfl ?_
 refine kC [] 21 (iV (impl_size p0)) [] rfl Tryz.call93 rfl rfl (impl_size_ac p0) rfl ?_
 refine kM 1 rfl ?_
 refine AOps_q 23 _ rfl rfl rfl (QOp_eql _ _ _ _ _ _ _ rfl rfl rfl) ?_
 refine kN 1 rfl ?_
 refine ACode_ret ?_
 cases h
 exact ⟨_, _, fun r a w h => ⟨r, h⟩, _, _, [], _, (.cons (ResV_tmp _ _ rfl) .nil), rfl, rfl, rfl, rfl, rfl⟩

-- (*loop.example/g01362/impl.Colouring).renumbered
def impl_Colouring_renumbered_l1 (p0 : Col) (p1 : List Int) (x1 : Int) : Nat → Int → Col → Option (Col)
 | 0, _, _ => none
 | k1 + 1, x4, x5 => (if decide (x4 < x1) then (if 0 ≤ x4 ∧ x4 < (p1.length : Int) then (if 0 ≤ x1 ∧ x1 < (p1.length : Int) then (impl_Colouring_at p0 x4 x1).bind fun r9 => (impl_Colouring_put x5 (p1.getD x4.toNat 0) (p1.getD x1.toNat 0) r9).bind fun r10 => impl_Colouring_renumbered_l1 p0 p1 x1 k1 (w64 (x4 + 1)) r10 else none) else none) else some x5)
def impl_Colouring_renumbered_l0 (k : Nat) (p0 : Col) (p1 : List Int) : Nat → Int → Col → Option (Col)
 | 0, _, _ => none
 | k0 + 1, x1, x2 => (if decide (x1 < p0.p) then (impl_Colouring_renumbered_l1 p0 p1 x1 k 0 x2 : Option (Col)).bind fun s11 => impl_Colouring_renumbered_l0 k p0 p1 k0 (w64 (x1 + 1)) s11 else some x2)
def impl_Colouring_renumbered (k : Nat) (p0 : Col) (p1 : List Int) : Option (Col) :=
 (impl_Colouring_renumbered_l0 k p0 p1 k 0 (⟨p0.p, p0.k, B136.zero⟩ : Col) : Option (Col)).bind fun s12 => some s12
set_option maxRecDepth 100000 in
theorem impl_Colouring_renumbered_ac (k : Nat) (p0 : Col) (p1 : List Int) (r : Col) (h : impl_Colouring_renumbered k p0 p1 = some r) : AC Tryz.prog 50 [.d (.pv (colD p0) 0), .d (.sl none (intsD p1))] [] (fun res H' => res = [.d (.agg (colD r))] ∧ H' = []) := by
 refine AC_of_body true Tryz.func50 rfl Tryz.ntmps50 (rvs := [.cell 4 26]) rfl rfl (fun G hG => ?_)
 have hm : G.H.length = 0 := by rw [hG]; rfl
 have hz : zeroG G.H = true := by rw [hG]; rfl
 unfold impl_Colouring_renumbered at h
 refine kR ?_
 refine AOps_alloc 4 _ _ (colD Col.zero) (zero_of Tryz.typeInfo26 rfl) (by rfl) rfl rfl rfl rfl ?_
 refine AOps_nil ?_
 refine ACode_seqJ (fun E' H' => Weak 44 G E' H' [(0, .d (.pv (colD p0) 0)), (1, .d (.sl none (intsD p1))), (4, .ptr 0 0), (5, .ptr 1 0)] [.box (colD Col.zero), .box (colD (⟨p0.p, p0.k, B136.zero⟩ : Col))]) ?_ ?_
 ·refine ACode_anyLast (l := [_, _, _, _, _, _, _, _, _, _]) mixed (by kernel_rfl) ?_
  refine AAny_q 0 8 _ rfl (by kernel_rfl) rfl rfl rfl (QOp_move _ _ rfl rfl) ?_
  refine AAny_q 1 9 _ rfl (by kernel_rfl) rfl rfl rfl (QOp_nilCheck_pv _ _ _ rfl rfl) ?_
  refine AAny_q 2 10 _ rfl (by kernel_rfl) rfl rfl rfl (QOp_fieldAddr_pv _ _ _ _ _ 0 _ _ rfl Tryz.underlying26 rfl _ Tryz.sizeOf2 rfl rfl) ?_
  refine AAny_q 3 11 _ rfl (by kernel_rfl) rfl rfl rfl (QOp_load_pv _ _ _ _ _ rfl Tryz.isAgg2 rfl rfl) ?_
  refine AAny_q 4 12 _ rfl (by kernel_rfl) rfl rfl rfl (QOp_move _ _ rfl rfl) ?_
  refine AAny_q 5 13 _ rfl (by kernel_rfl) rfl rfl rfl (QOp_nilCheck_pv _ _ _ rfl rfl) ?_
  refine AAny_q 6 14 _ rfl (by kernel_rfl) rfl rfl rfl (QOp_fieldAddr_pv _ _ _ _ _ 1 _ _ rfl Tryz.underlying26 rfl _ Tryz.sizeOf2 rfl rfl) ?_
  refine AAny_q 7 15 _ rfl (by kernel_rfl) rfl rfl rfl (QOp_load_pv _ _ _ _ _ rfl Tryz.isAgg2 rfl rfl) ?_
  refine AAny_q 8 16 _ rfl (by kernel_rfl) rfl rfl rfl (QOp_build _ _ [_, _] [0, 1] [iD p0.p, iD p0.k] _ (colD Col.zero) (colD (⟨p0.p, p0.k, B136.zero⟩ : Col)) [(0, 1), (1, 1), (2, 136)] rfl rfl Tryz.underlying26 (zero_of Tryz.typeInfo26 rfl) (fun w => by simp [Tryz.sizeOf2, Tryz.sizeOf2, Tryz.sizeOf24]) rfl (by rfl) (by rfl) (allc (ok1 rfl) (allc (ok1 rfl) (fun _ h => nomatch h)))) ?_
  refine AAny_all [9] (by kernel_rfl) rfl (allc ?_ (fun _ h => nomatch h))
  refine AStep_of 9 rfl rfl (Bl_alloc _ _ (zero_of Tryz.typeInfo26 rfl) rfl) ?_
  refine AOps_alloc 5 _ _ (colD Col.zero) (zero_of Tryz.typeInfo26 rfl) (by rfl) rfl rfl rfl rfl ?_
  refine AOps_nil ?_
  refine AAny_done (by kernel_rfl) ?_
  refine AOps_store _ _ _ _ _ _ (colD _) _ _ rfl rfl rfl rfl rfl rfl rfl (colD_one _) (by rw [colD_length]; exact Tryz.sizeOf26) (by rw [colD_length, colD_length]; decide) (colD_whole _ _) ?_
  refine AOps_nil ?_
  exact Weak_keep 0 hm [0, 1, 4, 5] [0, 1] _ _ rfl rfl rfl
 intro E' H' hw
 refine ACode_weak hw ?_
 refine kB (fun s12 => [(4, .ptr 0 0), (5, .ptr 1 0)]) (fun s12 => [.box (colD Col.zero), .box (colD s12)]) h (fun s12 h => ?_) (fun s12 h => ?_)
 ·refine kR ?_
  refine kM 1 rfl ?_
  refine AOps_q 18 _ rfl rfl rfl (QOp_nilCheck_pv _ _ _ rfl rfl) ?_
  refine AOps_q 19 _ rfl rfl rfl (QOp_fieldAddr_pv _ _ _ _ _ 0 _ _ rfl Tryz.underlying26 rfl _ Tryz.sizeOf2 rfl rfl) ?_
  refine AOps_q 20 _ rfl rfl rfl (QOp_load_pv _ _ _ _ _ rfl Tryz.isAgg2 rfl rfl) ?_
  refine kN 1 rfl ?_
  refine ACode_block ?_
  refine ACode_loopW (fun k0 E H => ∃ (x1 : Int) (x2 : Col), E = [(0, .d (.pv (colD p0) 0)), (1, .d (.sl none (intsD p1))), (4, .ptr 0 0), (5, .ptr 1 0), (20, iV p0.p), (21, iV x1)] ∧ H = [.box (colD Col.zero), .box (colD x2)] ∧ impl_Colouring_renumbered_l0 k p0 p1 k0 x1 x2 = some s12) k _ _ (Weak_keep 0 hm [0, 1, 4, 5, 20, 21] [0, 1] _ _ rfl rfl rfl) ⟨_, _, rfl, rfl, h⟩ ?_
  clear h
  rintro k0 E H ⟨x1, x2, rfl, rfl, h⟩
  cases k0 with
  | zero => cases (show (none : Option (Col)) = some _ from h)
  | succ k0 =>
   rw [impl_Colouring_renumbered_l0] at h
   refine kR ?_
   refine AOps_q 22 _ rfl rfl rfl (QOp_lss _ _ _ _ _ _ _ rfl rfl rfl) ?_
   refine AOps_nil ?_
   refine ACode_seq ?_
   refine kI h rfl (fun h _ => ?_) (fun h _ => ?_)
   ·refine ACode_skip ?_
    refine kB (fun s11 => [(0, .d (.pv (colD p0) 0)), (1, .d (.sl none (intsD p1))), (4, .ptr 0 0), (5, .ptr 1 0), (20, iV p0.p), (21, iV x1)]) (fun s11 => [.box (colD Col.zero), .box (colD s11)]) h (fun s11 h => ?_) (fun s11 h => ?_)
    ·refine ACode_block ?_
     refine kR ?_
     refine kN 2 rfl ?_
     refine kR ?_
     refine kN 2 rfl ?_
     refine ACode_block ?_
     refine ACode_loopW (fun k1 E H => ∃ (x4 : Int) (x5 : Col), E = [(0, .d (.pv (colD p0) 0)), (1, .d (.sl none (intsD p1))), (4, .ptr 0 0), (5, .ptr 1 0), (6, iV x1), (20, iV p0.p), (21, iV x1), (24, iV x1), (25, iV x4)] ∧ H = [.box (colD Col.zero), .box (colD x5)] ∧ impl_Colouring_renumbered_l1 p0 p1 x1 k1 x4 x5 = some s11) k _ _ (Weak_keep 0 hm [0, 1, 4, 5, 6, 20, 21, 24, 25] [0, 1] _ _ rfl rfl rfl) ⟨_, _, rfl, rfl, h⟩ ?_
     clear h
     rintro k1 E H ⟨x4, x5, rfl, rfl, h⟩
     cases k1 with
     | zero => cases (show (none : Option (Col)) = some _ from h)
     | succ k1 =>
      rw [impl_Colouring_renumbered_l1] at h
      refine kR ?_
      refine AOps_q 26 _ rfl rfl rfl (QOp_lss _ _ _ _ _ _ _ rfl rfl rfl) ?_
      refine AOps_nil ?_
      refine ACode_seq ?_
      refine kI h rfl (fun h _ => ?_) (fun h _ => ?_)
      ·refine ACode_skip ?_
       refine ACode_seq ?_
       refine ACode_block ?_
       refine kR ?_
       refine kN 2 rfl ?_
       refine (ACode_last (l := [_, _, _, _, _, _, _, _, _, _, _, _]) mixed (by kernel_rfl) (by kernel_rfl) ?_)
       refine kQ 2 rfl ?_
       obtain ⟨hc7, h⟩ := guardO h
       refine AQ_q 30 _ rfl rfl rfl (QOp_indexAddr_sl _ _ _ _ _ _ _ _ rfl Tryz.underlying29 Tryz.sizeOf2 hc7.1 (by rw [intsD_length]; exact hc7.2) rfl rfl) ?_
       refine AQ_q 31 _ rfl rfl rfl (QOp_load_pv _ _ _ _ _ rfl Tryz.isAgg2 rfl (intsD_get _ _ 0 (by omega))) ?_
       refine kQ 2 rfl ?_
       obtain ⟨hc8, h⟩ := guardO h
       refine AQ_q 34 _ rfl rfl rfl (QOp_indexAddr_sl _ _ _ _ _ _ _ _ rfl Tryz.underlying29 Tryz.sizeOf2 hc8.1 (by rw [intsD_length]; exact hc8.2) rfl rfl) ?_
       refine AQ_q 35 _ rfl rfl rfl (QOp_load_pv _ _ _ _ _ rfl Tryz.isAgg2 rfl (intsD_get _ _ 0 (by omega))) ?_
       refine kQ 3 rfl ?_
       obtain ⟨r9, hr9, h⟩ := bindO h
       refine AQ_call 39 _ _ _ _ _ _ _ _ _ rfl rfl rfl rfl rfl rfl rfl Tryz.call95 rfl rfl rfl (impl_Colouring_at_ac p0 x4 x1 _ hr9) ?_
       refine AQ_nil ?_
       obtain ⟨r10, hr10, h⟩ := bindO h
       refine kC [1] 40 (.tup []) [.box (colD Col.zero), .box (colD r10)] rfl Tryz.call94 rfl rfl (impl_Colouring_put_ac x5 (p1.getD x4.toNat 0) (p1.getD x1.toNat 0) r9 _ hr10) rfl ?_
       refine AOps_nil ?_
       refine (ACode_region ?_)
       refine AOps_q 41 _ rfl rfl rfl (QOp_add _ _ _ _ _ _ _ rfl rfl rfl) ?_
       refine kN 1 rfl ?_
       exact ⟨k1, _, _, Nat.lt_succ_self _, Weak_keep 0 hm [0, 1, 4, 5, 6, 20, 21, 24, 25] [0, 1] _ _ rfl rfl rfl, _, _, rfl, rfl, h⟩
      refine ACode_exit ?_
      cases h
      exact Weak_keep 0 hm [0, 1, 4, 5, 20, 21] [0, 1] _ _ rfl rfl rfl
    refine (ACode_region ?_)
    refine AOps_q 42 _ rfl rfl rfl (QOp_add _ _ _ _ _ _ _ rfl rfl rfl) ?_
    refine kN 1 rfl ?_
    exact ⟨k0, _, _, Nat.lt_succ_self _, Weak_keep 0 hm [0, 1, 4, 5, 20, 21] [0, 1] _ _ rfl rfl rfl, _, _, rfl, rfl, h⟩
   refine ACode_exit ?_
   cases h
   exact Weak_keep 0 hm [4, 5] [0, 1] _ _ rfl rfl rfl
 refine kR ?_
 refine AOps_q 43 _ rfl rfl rfl (QOp_loadN_ptr _ _ _ _ _ _ _ rfl Tryz.isAgg26 Tryz.sizeOf26 rfl rfl (colD_all _) (colD_length _)) ?_
 refine AOps_store _ _ _ _ _ _ (colD _) _ _ rfl rfl rfl rfl rfl rfl rfl (colD_one _) (by rw [colD_length]; exact Tryz.sizeOf26) (by rw [colD_length, colD_length]; decide) (colD_whole _ _) ?_
 refine AOps_nil ?_
 refine ACode_ret ?_
 cases h
 exact ⟨_, _, fun r a w h => ⟨r, h⟩, _, _, [], _, (.cons (ResV_agg _ _ _ _ _ _ Tryz.isAgg26 Tryz.sizeOf26 rfl rfl (colD_take _) (colD_length _)) .nil), rfl, rfl, rfl, rfl, rfl⟩

-- loop.example/g01362/impl.LeadsTo
def impl_LeadsTo (k : Nat) (p0 : Col) (p1 : Col) (p2 : List Int) : Option (Bool × Int) :=
 (((impl_Colouring_isColouring k p0).bind fun r1 => (if !r1 then some true else (impl_Colouring_isColouring k p1).bind fun r3 => some (!r3)) : Option (Bool)).bind fun s4 => (if s4 then some (.inr (false, 1)) else (impl_isOrder k p2 p0.p).bind fun r6 => (if !r6 then some (.inr (false, 2)) else some (.inl ()))) : Option (Sum (Unit) (Bool × Int))).bind fun os8 => (match os8 with | .inl s8 => (impl_Colouring_renumbered k p0 p2).bind fun r9 => some ((r9.eqb p1), 0) | .inr rr => some rr)
set_option maxRecDepth 100000 in
theorem impl_LeadsTo_ac (k : Nat) (p0 : Col) (p1 : Col) (p2 : List Int) (r : Bool × Int) (h : impl_LeadsTo k p0 p1 p2 = some r) : AC Tryz.prog 15 [.d (.agg (colD p0)), .d (.agg (colD p1)), .d (.sl none (intsD p2))] [] (fun res H' => res = [bV r.1, iV r.2] ∧ H' = []) := by
 refine AC_of_body true Tryz.func15 rfl Tryz.ntmps15 (rvs := [.tmp 6, .tmp 7]) rfl rfl (fun G hG => ?_)
 have hm : G.H.length = 0 := by rw [hG]; rfl
 have hz : zeroG G.H = true := by rw [hG]; rfl
 unfold impl_LeadsTo at h
 refine kR ?_
 refine AOps_boxI 3 _ _ (.agg (colD p0)) (colD p0) rfl (colD_one _) rfl rfl rfl rfl rfl ?_
 refine AOps_boxI 4 _ _ (.agg (colD p1)) (colD p1) rfl (colD_one _) rfl rfl rfl rfl rfl ?_
 refine kN 2 rfl ?_
 refine kO (fun s8 => [(2, .d (.sl none (intsD p2))), (3, .d (.pv (colD p0) 0)), (4, .d (.pv (colD p1) 0))]) (fun s8 => []) h (fun os8 h hks8 => ?_) (fun s8 h => ?_)
 ·refine ACode_block ?_
  refine kB (fun s4 => [(2, .d (.sl none (intsD p2))), (3, .d (.pv (colD p0) 0)), (4, .d (.pv (colD p1) 0)), (8, bV s4)]) (fun s4 => []) h (fun s4 h => ?_) (fun s4 h => ?_)
  ·refine (ACode_region ?_)
   obtain ⟨r1, hr1, h⟩ := bindO h
   refine kC [] 9 (bV r1) [] rfl Tryz.call36 rfl rfl (impl_Colouring_isColouring_ac k p0 _ hr1) rfl ?_
   refine AOps_q 10 _ rfl rfl rfl (QOp_not _ _ _ rfl rfl) ?_
   refine kM 1 rfl ?_
   refine AOps_case 11 _ rfl (fun hb2 => ?_) (fun hb2 => ?_)
   ·have h := iteT hb2 h
    refine AOps_skip 12 rfl rfl rfl ?_
    refine AOps_skip 13 rfl rfl rfl ?_
    refine kN 2 rfl ?_
    cases h
    exact Weak_keep 0 hm [2, 3, 4, 8] [] _ _ rfl rfl rfl
   have h := iteF hb2 h
   obtain ⟨r3, hr3, h⟩ := bindO h
   refine kC [] 12 (bV r3) [] rfl Tryz.call36 rfl rfl (impl_Colouring_isColouring_ac k p1 _ hr3) rfl ?_
   refine AOps_q 13 _ rfl rfl rfl (QOp_not _ _ _ rfl rfl) ?_
   refine kN 2 rfl ?_
   cases h
   exact Weak_keep 0 hm [2, 3, 4, 8] [] _ _ rfl rfl rfl
  refine kI h rfl (fun h _ => ?_) (fun h _ => ?_)
  ·refine kR ?_
   refine kN 2 rfl ?_
   refine ACode_ret ?_
   cases h
   have h := hks8
   cases h
   exact ⟨_, _, fun r a w h => ⟨r, h⟩, _, _, [], _, (.cons (ResV_tmp _ _ rfl) (.cons (ResV_tmp _ _ rfl) .nil)), rfl, rfl, rfl, rfl, rfl⟩
  refine kR ?_
  refine kM 1 rfl ?_
  refine AOps_q 17 _ rfl rfl rfl (QOp_fieldAddr_pv _ _ _ _ _ 0 _ _ rfl Tryz.underlying26 rfl _ Tryz.sizeOf2 rfl rfl) ?_
  refine AOps_q 18 _ rfl rfl rfl (QOp_load_pv _ _ _ _ _ rfl Tryz.isAgg2 rfl rfl) ?_
  obtain ⟨r6, hr6, h⟩ := bindO h
  refine kC [] 19 (bV r6) [] rfl Tryz.call49 rfl rfl (impl_isOrder_ac k p2 p0.p _ hr6) rfl ?_
  refine AOps_q 20 _ rfl rfl rfl (QOp_not _ _ _ rfl rfl) ?_
  refine kN 1 rfl ?_
  refine kI h rfl (fun h _ => ?_) (fun h _ => ?_)
  ·refine kR ?_
   refine kN 2 rfl ?_
   refine ACode_ret ?_
   cases h
   have h := hks8
   cases h
   exact ⟨_, _, fun r a w h => ⟨r, h⟩, _, _, [], _, (.cons (ResV_tmp _ _ rfl) (.cons (ResV_tmp _ _ rfl) .nil)), rfl, rfl, rfl, rfl, rfl⟩
  refine ACode_skip ?_
  cases h
  exact ⟨_, rfl, Weak_keep 0 hm [2, 3, 4] [] _ _ rfl rfl rfl⟩
 obtain ⟨r9, hr9, h⟩ := bindO h
 refine ACode_seqJ (fun E' H' => Weak 25 G E' H' [(6, bV (r9.eqb p1)), (7, iV 0)] []) ?_ ?_
 ·refine ACode_any mixed ?_
  refine AAny_q 0 21 _ rfl (by kernel_rfl) rfl rfl rfl (QOp_move _ _ rfl rfl) ?_
  refine AAny_q 2 23 _ rfl (by kernel_rfl) rfl rfl rfl (QOp_loadN_pv _ _ _ _ _ _ rfl Tryz.isAgg26 Tryz.sizeOf26 rfl (colD_all _) (colD_length _)) ?_
  refine AAny_all [1] (by kernel_rfl) rfl (allc ?_ (fun _ h => nomatch h))
  refine AStep_callN 1 22 _ _ _ _ _ _ _ _ _ rfl rfl rfl rfl rfl rfl rfl rfl Tryz.call50 rfl rfl rfl (impl_Colouring_renumbered_ac k p0 p2 _ hr9) ?_
  rintro _ _ ⟨rfl, rfl⟩
  refine ⟨(fun _ h => nomatch h), (allc (trivial) (fun _ h => nomatch h)), AAny_as 22 (v' := .d (.agg (colD r9))) (H' := []) rfl rfl ?_⟩
  refine AAny_q 3 24 _ rfl (by kernel_rfl) rfl rfl rfl (QOp_eqCol _ _ _ _ _ _ _ _ _ _ _ _ rfl rfl rfl Tryz.underlying26 (by kernel_rfl) (by kernel_rfl) (by decide) (by decide) (by decide) rfl rfl rfl rfl rfl rfl Tryz.underlying2 Tryz.underlying24 Tryz.underlying5 Tryz.sizeOf5 Tryz.sizeOf24) ?_
  refine AAny_q 4 6 _ rfl (by kernel_rfl) rfl rfl rfl (QOp_assign _ _ rfl rfl) ?_
  refine AAny_q 5 7 _ rfl (by kernel_rfl) rfl rfl rfl (QOp_assign _ _ rfl rfl) ?_
  refine AAny_done (by kernel_rfl) ?_
  exact Weak_keep 0 hm [6, 7] [] _ _ rfl rfl rfl
 intro E' H' hw
 refine ACode_weak hw ?_
 refine ACode_ret ?_
 cases h
 exact ⟨_, _, fun r a w h => ⟨r, h⟩, _, _, [], _, (.cons (ResV_tmp _ _ rfl) (.cons (ResV_tmp _ _ rfl) .nil)), rfl, rfl, rfl, rfl, rfl⟩

-- loop.example/g01362/spec.l01Order
def spec_l01Order_l0 (p0 : List Int) (p1 : Int) : Nat → Int → (List Bool) → Option (Sum (Unit) (Bool))
 | 0, _, _ => none
 | k0 + 1, x2, x3 => (if decide (x2 < (p0.length : Int)) then ((((if 0 ≤ x2 ∧ x2 < (p0.length : Int) then (if !(spec_l01In (p0.getD x2.toNat 0) 0 (w64 (p1 - 1))) then some true else (if 0 ≤ x2 ∧ x2 < (p0.length : Int) then (if 0 ≤ (p0.getD x2.toNat 0) ∧ (p0.getD x2.toNat 0) < (x3.length : Int) then some (x3.getD (p0.getD x2.toNat 0).toNat false) else none) else none)) else none) : Option (Bool)).bind fun s10 => (if s10 then ((some (.inr false)).bind fun rr => some (.inr rr)).bind fun rr => some (.inr rr) else some (.inl ())) : Option (Sum (Unit) (Sum (Unit) (Sum (Unit) (Bool))))).bind fun os12 => (match os12 with | .inl s12 => (if 0 ≤ x2 ∧ x2 < (p0.length : Int) then (if 0 ≤ (p0.getD x2.toNat 0) ∧ (p0.getD x2.toNat 0) < (x3.length : Int) then some (.inl ()) else none) else none) | .inr rr => some rr) : Option (Sum (Unit) (Sum (Unit) (Bool)))).bind fun os15 => (match os15 with | .inl s15 => spec_l01Order_l0 p0 p1 k0 (w64 (x2 + 1)) (x3.set (p0.getD x2.toNat 0).toNat true) | .inr rr => some rr) else some (.inl ()))
def spec_l01Order (k : Nat) (p0 : List Int) (p1 : Int) : Option (Bool) :=
 (if 0 ≤ p1 ∧ p1 ≤ p1 ∧ p1 ≤ 1099511627776 then (spec_l01Order_l0 p0 p1 k 0 (List.replicate p1.toNat (false : Bool)) : Option (Sum (Unit) (Bool))).bind fun os16 => (match os16 with | .inl s16 => some (decide ((p0.length : Int) = p1)) | .inr rr => some rr) else none)
set_option maxRecDepth 100000 in
theorem spec_l01Order_ac (k : Nat) (p0 : List Int) (p1 : Int) (r : Bool) (h : spec_l01Order k p0 p1 = some r) : AC Tryz.prog 51 [.d (.sl none (intsD p0)), iV p1] [] (fun res H' => res = [bV r] ∧ H' = []) := by
 refine AC_of_body true Tryz.func51 rfl Tryz.ntmps51 (rvs := [.tmp 4]) rfl rfl (fun G hG => ?_)
 have hm : G.H.length = 0 := by rw [hG]; rfl
 have hz : zeroG G.H = true := by rw [hG]; rfl
 unfold spec_l01Order at h
 refine kR ?_
 refine kN 1 rfl ?_
 refine kR ?_
 refine kM 1 rfl ?_
 obtain ⟨hc1, h⟩ := guardO h
 refine AOps_makeSliceG bosD bD false (bosD_rep · _) 8 _ _ _ _ _ _ p1 p1 _ (.bool false) rfl rfl rfl rfl rfl rfl Tryz.underlying86 Tryz.type4 rfl rfl (by decide) rfl rfl hc1.1 hc1.2.1 hc1.2.2 ?_
 refine kN 1 rfl ?_
 refine kO (fun s16 => [(0, .d (.sl none (intsD p0))), (1, iV p1)]) (fun s16 => []) h (fun os16 h hks16 => ?_) (fun s16 h => ?_)
 ·refine kR ?_
  refine kN 1 rfl ?_
  refine ACode_block ?_
  refine ACode_loopW (fun k0 E H => ∃ (x2 : Int) (x3 : List Bool), E = [(0, .d (.sl none (intsD p0))), (1, iV p1), (5, .vec 0 0), (6, iV x2)] ∧ H = [.vec 0 (bosD x3)] ∧ spec_l01Order_l0 p0 p1 k0 x2 x3 = some os16) k _ _ (Weak_keep 0 hm [0, 1, 5, 6] [0] _ _ rfl rfl rfl) ⟨_, _, rfl, rfl, h⟩ ?_
  clear h
  rintro k0 E H ⟨x2, x3, rfl, rfl, h⟩
  cases k0 with
  | zero => cases (show (none : Option (Sum (Unit) (Bool))) = some _ from h)
  | succ k0 =>
   rw [spec_l01Order_l0] at h
   refine ACode_seq ?_
   refine kR ?_
   refine kM 2 rfl ?_
   refine AOps_q 11 _ rfl rfl rfl (QOp_len_sl _ _ _ _ _ _ _ (intsD_length _) rfl rfl rfl rfl Tryz.underlying29 rfl) ?_
   refine AOps_q 12 _ rfl rfl rfl (QOp_lss _ _ _ _ _ _ _ rfl rfl rfl) ?_
   refine AOps_nil ?_
   refine kI h rfl (fun h _ => ?_) (fun h _ => ?_)
   ·refine ACode_skip ?_
    refine kO (fun s15 => [(0, .d (.sl none (intsD p0))), (1, iV p1), (5, .vec 0 0), (6, iV x2)]) (fun s15 => [.vec 0 (bosD (x3.set (p0.getD x2.toNat 0).toNat true))]) h (fun os15 h hks15 => ?_) (fun s15 h => ?_)
    ·refine ACode_block ?_
     refine kO (fun s12 => [(0, .d (.sl none (intsD p0))), (1, iV p1), (5, .vec 0 0), (6, iV x2)]) (fun s12 => [.vec 0 (bosD x3)]) h (fun os12 h hks12 => ?_) (fun s12 h => ?_)
     ·refine kB (fun s10 => [(0, .d (.sl none (intsD p0))), (1, iV p1), (5, .vec 0 0), (6, iV x2), (31, bV s10)]) (fun s10 => [.vec 0 (bosD x3)]) h (fun s10 h => ?_) (fun s10 h => ?_)
      ·refine (ACode_region ?_)
       refine kM 2 rfl ?_
       obtain ⟨hc5, h⟩ := guardO h
       refine AOps_q 17 _ rfl rfl rfl (QOp_indexAddr_sl _ _ _ _ _ _ _ _ rfl Tryz.underlying29 Tryz.sizeOf2 hc5.1 (by rw [intsD_length]; exact hc5.2) rfl rfl) ?_
       refine AOps_q 18 _ rfl rfl rfl (QOp_load_pv _ _ _ _ _ rfl Tryz.isAgg2 rfl (intsD_get _ _ 0 (by omega))) ?_
       refine kM 1 rfl ?_
       refine AOps_q 20 _ rfl rfl rfl (QOp_sub _ _ _ _ _ _ _ rfl rfl rfl) ?_
       refine kC [] 21 (bV (spec_l01In (p0.getD x2.toNat 0) 0 (w64 (p1 - 1)))) [.vec 0 (bosD x3)] rfl Tryz.call76 rfl rfl (spec_l01In_ac (p0.getD x2.toNat 0) 0 (w64 (p1 - 1))) rfl ?_
       refine AOps_q 22 _ rfl rfl rfl (QOp_not _ _ _ rfl rfl) ?_
       refine kM 1 rfl ?_
       refine AOps_case 23 _ rfl (fun hb7 => ?_) (fun hb7 => ?_)
       ·have h := iteT hb7 h
        refine AOps_skip 24 rfl rfl rfl ?_
        refine AOps_skip 25 rfl rfl rfl ?_
        refine AOps_skip 26 rfl rfl rfl ?_
        refine AOps_skip 27 rfl rfl rfl ?_
        refine AOps_skip 28 rfl rfl rfl ?_
        refine AOps_skip 29 rfl rfl rfl ?_
        refine AOps_skip 30 rfl rfl rfl ?_
        refine kN 1 rfl ?_
        cases h
        exact Weak_keep 0 hm [0, 1, 5, 6, 31] [0] _ _ rfl rfl rfl
       have h := iteF hb7 h
       refine kM 3 rfl ?_
       obtain ⟨hc8, h⟩ := guardO h
       refine AOps_q 27 _ rfl rfl rfl (QOp_indexAddr_sl _ _ _ _ _ _ _ _ rfl Tryz.underlying29 Tryz.sizeOf2 hc8.1 (by rw [intsD_length]; exact hc8.2) rfl rfl) ?_
       refine AOps_q 28 _ rfl rfl rfl (QOp_load_pv _ _ _ _ _ rfl Tryz.isAgg2 rfl (intsD_get _ _ 0 (by omega))) ?_
       obtain ⟨hc9, h⟩ := guardO h
       refine AOps_q 29 _ rfl rfl rfl (QOp_indexAddr_vec _ _ _ _ _ _ _ _ _ rfl Tryz.underlying86 Tryz.sizeOf4 hc9.1 (by rw [bosD_length]; exact hc9.2) rfl rfl rfl) ?_
       refine AOps_q 30 _ rfl rfl rfl (QOp_load_eptr _ _ _ _ _ _ _ rfl Tryz.isAgg4 rfl rfl (bosD_get _ _ false (by omega))) ?_
       refine kN 1 rfl ?_
       cases h
       exact Weak_keep 0 hm [0, 1, 5, 6, 31] [0] _ _ rfl rfl rfl
      refine kI h rfl (fun h _ => ?_) (fun h _ => ?_)
      ·refine kR ?_
       refine kN 1 rfl ?_
       refine ACode_ret ?_
       obtain ⟨rr, hz18, h2⟩ := bindO h
       obtain rfl := Option.some.inj h2
       obtain rfl := Option.some.inj (show some rr = some _ from hks12)
       have h := hz18
       obtain ⟨rr, hz17, h2⟩ := bindO h
       obtain rfl := Option.some.inj h2
       obtain rfl := Option.some.inj (show some rr = some _ from hks15)
       have h := hz17
       cases h
       have h := hks16
       cases h
       exact ⟨_, _, fun r a w h => ⟨r, h⟩, _, _, [], _, (.cons (ResV_tmp _ _ rfl) .nil), rfl, rfl, rfl, rfl, rfl⟩
      refine ACode_skip ?_
      cases h
      exact ⟨_, rfl, Weak_keep 0 hm [0, 1, 5, 6] [0] _ _ rfl rfl rfl⟩
     refine (ACode_region ?_)
     refine kM 3 rfl ?_
     obtain ⟨hc13, h⟩ := guardO h
     refine AOps_q 35 _ rfl rfl rfl (QOp_indexAddr_sl _ _ _ _ _ _ _ _ rfl Tryz.underlying29 Tryz.sizeOf2 hc13.1 (by rw [intsD_length]; exact hc13.2) rfl rfl) ?_
     refine AOps_q 36 _ rfl rfl rfl (QOp_load_pv _ _ _ _ _ rfl Tryz.isAgg2 rfl (intsD_get _ _ 0 (by omega))) ?_
     obtain ⟨hc14, h⟩ := guardO h
     refine AOps_q 37 _ rfl rfl rfl (QOp_indexAddr_vec _ _ _ _ _ _ _ _ _ rfl Tryz.underlying86 Tryz.sizeOf4 hc14.1 (by rw [bosD_length]; exact hc14.2) rfl rfl rfl) ?_
     refine AOps_store_eptr _ _ _ _ _ _ (bosD x3) _ rfl rfl rfl rfl rfl rfl rfl Tryz.sizeOf4 (by rw [bosD_length]; omega) ?_
     rw [bosD_set]
     refine AOps_nil ?_
     cases h
     exact ⟨_, rfl, Weak_keep 0 hm [0, 1, 5, 6] [0] _ _ rfl rfl rfl⟩
    refine (ACode_region ?_)
    refine kM 1 rfl ?_
    refine AOps_q 14 _ rfl rfl rfl (QOp_add _ _ _ _ _ _ _ rfl rfl rfl) ?_
    refine kN 1 rfl ?_
    exact ⟨k0, _, _, Nat.lt_succ_self _, Weak_keep 0 hm [0, 1, 5, 6] [0] _ _ rfl rfl rfl, _, _, rfl, rfl, h⟩
   refine ACode_exit ?_
   cases h
   exact ⟨_, rfl, Weak_keep 0 hm [0, 1] [] _ _ rfl rfl rfl⟩
 refine kR ?_
 refine kM 1 rfl ?_
 refine AOps_q 39 _ rfl rfl rfl (QOp_len_sl _ _ _ _ _ _ _ (intsD_length _) rfl rfl rfl rfl Tryz.underlying29 rfl) ?_
 refine kM 1 rfl ?_
 refine AOps_q 41 _ rfl rfl rfl (QOp_eql _ _ _ _ _ _ _ rfl rfl rfl) ?_
 refine kN 1 rfl ?_
 refine ACode_ret ?_
 cases h
 exact ⟨_, _, fun r a w h => ⟨r, h⟩, _, _, [], _, (.cons (ResV_tmp _ _ rfl) .nil), rfl, rfl, rfl, rfl, rfl⟩

-- loop.example/g01362/spec.LeadsTo
def spec_LeadsTo (k : Nat) (p0 : Col) (p1 : Col) (p2 : List Int) : Option (Bool × Int) :=
 (((spec_l01Is k p0).bind fun r1 => (if !r1 then some true else (spec_l01Is k p1).bind fun r3 => some (!r3)) : Option (Bool)).bind fun s4 => (if s4 then some (.inr (false, 1)) else (spec_l01Order k p2 p0.p).bind fun r6 => (if !r6 then some (.inr (false, 2)) else some (.inl ()))) : Option (Sum (Unit) (Bool × Int))).bind fun os8 => (match os8 with | .inl s8 => (spec_l01Renamed k p0 p2).bind fun r9 => some ((r9.eqb p1), 0) | .inr rr => some rr)
set_option maxRecDepth 100000 in
theorem spec_LeadsTo_ac (k : Nat) (p0 : Col) (p1 : Col) (p2 : List Int) (r : Bool × Int) (h : spec_LeadsTo k p0 p1 p2 = some r) : AC Tryz.prog 16 [.d (.agg (colD p0)), .d (.agg (colD p1)), .d (.sl none (intsD p2))] [] (fun res H' => res = [bV r.1, iV r.2] ∧ H' = []) := by
 refine AC_of_body true Tryz.func16 rfl Tryz.ntmps16 (rvs := [.tmp 6, .tmp 7]) rfl rfl (fun G hG => ?_)
 have hm : G.H.length = 0 := by rw [hG]; rfl
 have hz : zeroG G.H = true := by rw [hG]; rfl
 unfold spec_LeadsTo at h
 refine kR ?_
 refine AOps_boxI 3 _ _ (.agg (colD p0)) (colD p0) rfl (colD_one _) rfl rfl rfl rfl rfl ?_
 refine AOps_boxI 4 _ _ (.agg (colD p1)) (colD p1) rfl (colD_one _) rfl rfl rfl rfl rfl ?_
 refine kN 2 rfl ?_
 refine kO (fun s8 => [(2, .d (.sl none (intsD p2))), (3, .d (.pv (colD p0) 0)), (4, .d (.pv (colD p1) 0))]) (fun s8 => []) h (fun os8 h hks8 => ?_) (fun s8 h => ?_)
 ·refine ACode_block ?_
  refine kB (fun s4 => [(2, .d (.sl none (intsD p2))), (3, .d (.pv (colD p0) 0)), (4, .d (.pv (colD p1) 0)), (8, bV s4)]) (fun s4 => []) h (fun s4 h => ?_) (fun s4 h => ?_)
  ·refine (ACode_region ?_)
   refine AOps_q 9 _ rfl rfl rfl (QOp_loadN_pv _ _ _ _ _ _ rfl Tryz.isAgg26 Tryz.sizeOf26 rfl (colD_all _) (colD_length _)) ?_
   obtain ⟨r1, hr1, h⟩ := bindO h
   refine kC [] 10 (bV r1) [] rfl Tryz.call38 rfl rfl (spec_l01Is_ac k p0 _ hr1) rfl ?_
   refine AOps_q 11 _ rfl rfl rfl (QOp_not _ _ _ rfl rfl) ?_
   refine kM 1 rfl ?_
   refine AOps_case 12 _ rfl (fun hb2 => ?_) (fun hb2 => ?_)
   ·have h := iteT hb2 h
    refine AOps_skip 13 rfl rfl rfl ?_
    refine AOps_skip 14 rfl rfl rfl ?_
    refine AOps_skip 15 rfl rfl rfl ?_
    refine kN 2 rfl ?_
    cases h
    exact Weak_keep 0 hm [2, 3, 4, 8] [] _ _ rfl rfl rfl
   have h := iteF hb2 h
   refine AOps_q 13 _ rfl rfl rfl (QOp_loadN_pv _ _ _ _ _ _ rfl Tryz.isAgg26 Tryz.sizeOf26 rfl (colD_all _) (colD_length _)) ?_
   obtain ⟨r3, hr3, h⟩ := bindO h
   refine kC [] 14 (bV r3) [] rfl Tryz.call38 rfl rfl (spec_l01Is_ac k p1 _ hr3) rfl ?_
   refine AOps_q 15 _ rfl rfl rfl (QOp_not _ _ _ rfl rfl) ?_
   refine kN 2 rfl ?_
   cases h
   exact Weak_keep 0 hm [2, 3, 4, 8] [] _ _ rfl rfl rfl
  refine kI h rfl (fun h _ => ?_) (fun h _ => ?_)
  ·refine kR ?_
   refine kN 2 rfl ?_
   refine ACode_ret ?_
   cases h
   have h := hks8
   cases h
   exact ⟨_, _, fun r a w h => ⟨r, h⟩, _, _, [], _, (.cons (ResV_tmp _ _ rfl) (.cons (ResV_tmp _ _ rfl) .nil)), rfl, rfl, rfl, rfl, rfl⟩
  refine kR ?_
  refine kM 1 rfl ?_
  refine AOps_q 19 _ rfl rfl rfl (QOp_fieldAddr_pv _ _ _ _ _ 0 _ _ rfl Tryz.underlying26 rfl _ Tryz.sizeOf2 rfl rfl) ?_
  refine AOps_q 20 _ rfl rfl rfl (QOp_load_pv _ _ _ _ _ rfl Tryz.isAgg2 rfl rfl) ?_
  obtain ⟨r6, hr6, h⟩ := bindO h
  refine kC [] 21 (bV r6) [] rfl Tryz.call51 rfl rfl (spec_l01Order_ac k p2 p0.p _ hr6) rfl ?_
  refine AOps_q 22 _ rfl rfl rfl (QOp_not _ _ _ rfl rfl) ?_
  refine kN 1 rfl ?_
  refine kI h rfl (fun h _ => ?_) (fun h _ => ?_)
  ·refine kR ?_
   refine kN 2 rfl ?_
   refine ACode_ret ?_
   cases h
   have h := hks8
   cases h
   exact ⟨_, _, fun r a w h => ⟨r, h⟩, _, _, [], _, (.cons (ResV_tmp _ _ rfl) (.cons (ResV_tmp _ _ rfl) .nil)), rfl, rfl, rfl, rfl, rfl⟩
  refine ACode_skip ?_
  cases h
  exact ⟨_, rfl, Weak_keep 0 hm [2, 3, 4] [] _ _ rfl rfl rfl⟩
 obtain ⟨r9, hr9, h⟩ := bindO h
 refine ACode_seqJ (fun E' H' => Weak 28 G E' H' [(6, bV (r9.eqb p1)), (7, iV 0)] []) ?_ ?_
 ·refine ACode_any mixed ?_
  refine AAny_q 0 23 _ rfl (by kernel_rfl) rfl rfl rfl (QOp_loadN_pv _ _ _ _ _ _ rfl Tryz.isAgg26 Tryz.sizeOf26 rfl (colD_all _) (colD_length _)) ?_
  refine AAny_q 1 24 _ rfl (by kernel_rfl) rfl rfl rfl (QOp_move _ _ rfl rfl) ?_
  refine AAny_q 3 26 _ rfl (by kernel_rfl) rfl rfl rfl (QOp_loadN_pv _ _ _ _ _ _ rfl Tryz.isAgg26 Tryz.sizeOf26 rfl (colD_all _) (colD_length _)) ?_
  refine AAny_all [2] (by kernel_rfl) rfl (allc ?_ (fun _ h => nomatch h))
  refine AStep_callN 2 25 _ _ _ _ _ _ _ _ _ rfl rfl rfl rfl rfl rfl rfl rfl Tryz.call47 rfl rfl rfl (spec_l01Renamed_ac k p0 p2 _ hr9) ?_
  rintro _ _ ⟨rfl, rfl⟩
  refine ⟨(fun _ h => nomatch h), (allc (trivial) (fun _ h => nomatch h)), AAny_as 25 (v' := .d (.agg (colD r9))) (H' := []) rfl rfl ?_⟩
  refine AAny_q 4 27 _ rfl (by kernel_rfl) rfl rfl rfl (QOp_eqCol _ _ _ _ _ _ _ _ _ _ _ _ rfl rfl rfl Tryz.underlying26 (by kernel_rfl) (by kernel_rfl) (by decide) (by decide) (by decide) rfl rfl rfl rfl rfl rfl Tryz.underlying2 Tryz.underlying24 Tryz.underlying5 Tryz.sizeOf5 Tryz.sizeOf24) ?_
  refine AAny_q 5 6 _ rfl (by kernel_rfl) rfl rfl rfl (QOp_assign _ _ rfl rfl) ?_
  refine AAny_q 6 7 _ rfl (by kernel_rfl) rfl rfl rfl (QOp_assign _ _ rfl rfl) ?_
  refine AAny_done (by kernel_rfl) ?_
  exact Weak_keep 0 hm [6, 7] [] _ _ rfl rfl rfl
 intro E' H' hw
 refine ACode_weak hw ?_
 refine ACode_ret ?_
 cases h
 exact ⟨_, _, fun r a w h => ⟨r, h⟩, _, _, [], _, (.cons (ResV_tmp _ _ rfl) (.cons (ResV_tmp _ _ rfl) .nil)), rfl, rfl, rfl, rfl, rfl⟩

-- (*loop.example/g01362/impl.Colouring).code
def impl_Colouring_code (k : Nat) (p0 : Col) (p1 : Option (Bool)) : Option (Int) :=
 (impl_Colouring_isColouring k p0).bind fun r1 => (if !r1 then some 1 else (p1).bind fun r3 => (if !r3 then some 2 else some 0))
set_option maxRecDepth 100000 in
theorem impl_Colouring_code_ac (k : Nat) (p0 : Col) (p1 : Option (Bool)) (g_p1 : FuncId) (c_p1 : List D) (hg_p1 : ∀ args w, (callFunc g_p1 args).run Tryz.prog w = .ok (.enter g_p1 args) w) (hf_p1 : ∀ (r : Bool), p1 = some r → AC Tryz.prog g_p1 ([] ++ c_p1.map AV.d) [] (fun res H' => res = [bV r] ∧ H' = [])) (r : Int) (h : impl_Colouring_code k p0 p1 = some r) : AC Tryz.prog 52 [.d (.pv (colD p0) 0), .d (.clo g_p1 c_p1)] [] (fun res H' => res = [iV r] ∧ H' = []) := by
 refine AC_of_body true Tryz.func52 rfl Tryz.ntmps52 (rvs := [.tmp 4]) rfl rfl (fun G hG => ?_)
 have hm : G.H.length = 0 := by rw [hG]; rfl
 have hz : zeroG G.H = true := by rw [hG]; rfl
 unfold impl_Colouring_code at h
 refine kR ?_
 refine kN 1 rfl ?_
 refine ACode_seq ?_
 refine ACode_block ?_
 refine kR ?_
 refine kM 1 rfl ?_
 obtain ⟨r1, hr1, h⟩ := bindO h
 refine kC [] 7 (bV r1) [] rfl Tryz.call36 rfl rfl (impl_Colouring_isColouring_ac k p0 _ hr1) rfl ?_
 refine AOps_q 8 _ rfl rfl rfl (QOp_not _ _ _ rfl rfl) ?_
 refine kN 1 rfl ?_
 refine kI h rfl (fun h _ => ?_) (fun h _ => ?_)
 ·refine kR ?_
  refine kN 1 rfl ?_
  refine ACode_ret ?_
  cases h
  exact ⟨_, _, fun r a w h => ⟨r, h⟩, _, _, [], _, (.cons (ResV_tmp _ _ rfl) .nil), rfl, rfl, rfl, rfl, rfl⟩
 refine kR ?_
 refine kM 1 rfl ?_
 obtain ⟨r3, hr3, h⟩ := bindO h
 refine kC [] 11 (bV r3) [] rfl hg_p1 rfl (viewA_mapD _) (hf_p1 _ hr3) rfl ?_
 refine AOps_q 12 _ rfl rfl rfl (QOp_not _ _ _ rfl rfl) ?_
 refine kN 1 rfl ?_
 refine kI h rfl (fun h _ => ?_) (fun h _ => ?_)
 ·refine kR ?_
  refine kN 1 rfl ?_
  refine ACode_ret ?_
  cases h
  exact ⟨_, _, fun r a w h => ⟨r, h⟩, _, _, [], _, (.cons (ResV_tmp _ _ rfl) .nil), rfl, rfl, rfl, rfl, rfl⟩
 refine ACode_skip ?_
 refine kR ?_
 refine kN 1 rfl ?_
 refine ACode_ret ?_
 cases h
 exact ⟨_, _, fun r a w h => ⟨r, h⟩, _, _, [], _, (.cons (ResV_tmp _ _ rfl) .nil), rfl, rfl, rfl, rfl, rfl⟩

-- loop.example/g01362/impl.RenumberPoints$1
def impl_RenumberPoints_c1 (k : Nat) (p0 : List Int) (p1 : Col) : Option (Bool) :=
 (impl_isOrder k p0 p1.p).bind fun r1 => some r1
set_option maxRecDepth 100000 in
theorem impl_RenumberPoints_c1_ac (k : Nat) (p0 : List Int) (p1 : Col) (r : Bool) (h : impl_RenumberPoints_c1 k p0 p1 = some r) : AC Tryz.prog 53 [.d (.pv ([.sl none (intsD p0)]) 0), .d (.pv (colD p1) 0)] [] (fun res H' => res = [bV r] ∧ H' = []) := by
 refine AC_of_body true Tryz.func53 rfl Tryz.ntmps53 (rvs := [.tmp 2]) rfl rfl (fun G hG => ?_)
 have hm : G.H.length = 0 := by rw [hG]; rfl
 have hz : zeroG G.H = true := by rw [hG]; rfl
 unfold impl_RenumberPoints_c1 at h
 refine kR ?_
 refine kN 1 rfl ?_
 refine kR ?_
 refine AOps_q 3 _ rfl rfl rfl (QOp_load_pv _ _ _ _ _ rfl Tryz.isAgg29 rfl rfl) ?_
 refine AOps_q 4 _ rfl rfl rfl (QOp_fieldAddr_pv _ _ _ _ _ 0 _ _ rfl Tryz.underlying26 rfl _ Tryz.sizeOf2 rfl rfl) ?_
 refine AOps_q 5 _ rfl rfl rfl (QOp_load_pv _ _ _ _ _ rfl Tryz.isAgg2 rfl rfl) ?_
 obtain ⟨r1, hr1, h⟩ := bindO h
 refine kC [] 6 (bV r1) [] rfl Tryz.call49 rfl rfl (impl_isOrder_ac k p0 p1.p _ hr1) rfl ?_
 refine kN 1 rfl ?_
 refine ACode_ret ?_
 cases h
 exact ⟨_, _, fun r a w h => ⟨r, h⟩, _, _, [], _, (.cons (ResV_tmp _ _ rfl) .nil), rfl, rfl, rfl, rfl, rfl⟩

-- loop.example/g01362/impl.RenumberPoints
def impl_RenumberPoints (k : Nat) (p0 : Col) (p1 : List Int) : Option (Col × Int) :=
 (impl_Colouring_code k p0 (impl_RenumberPoints_c1 k p1 p0)).bind fun r1 => (if !decide (r1 = 0) then some ((⟨0, 0, B136.zero⟩ : Col), r1) else (impl_Colouring_renumbered k p0 p1).bind fun r3 => some (r3, 0))
set_option maxRecDepth 100000 in
theorem impl_RenumberPoints_ac (k : Nat) (p0 : Col) (p1 : List Int) (r : Col × Int) (h : impl_RenumberPoints k p0 p1 = some r) : AC Tryz.prog 17 [.d (.agg (colD p0)), .d (.sl none (intsD p1))] [] (fun res H' => res = [.d (.agg (colD r.1)), iV r.2] ∧ H' = []) := by
 refine AC_of_body true Tryz.func17 rfl Tryz.ntmps17 (rvs := [.cell 4 26, .tmp 5]) rfl rfl (fun G hG => ?_)
 have hm : G.H.length = 0 := by rw [hG]; rfl
 have hz : zeroG G.H = true := by rw [hG]; rfl
 unfold impl_RenumberPoints at h
 refine kR ?_
 refine AOps_boxI 2 _ _ (.agg (colD p0)) (colD p0) rfl (colD_one _) rfl rfl rfl rfl rfl ?_
 refine AOps_boxI 3 _ _ (.sl none (intsD p1)) _ rfl (fun c hc => by cases hc with | head => rfl | tail _ h => cases h) rfl rfl rfl rfl rfl ?_
 refine AOps_alloc 4 _ _ (colD Col.zero) (zero_of Tryz.typeInfo26 rfl) (by rfl) rfl rfl rfl rfl ?_
 refine kN 1 rfl ?_
 refine ACode_seq ?_
 refine kR ?_
 refine AOps_q 7 _ rfl rfl rfl (QOp_makeFuncD _ _ _ _ rfl rfl rfl) ?_
 obtain ⟨r1, hr1, h⟩ := bindO h
 refine kC [] 8 (iV r1) [.box (colD Col.zero)] rfl Tryz.call52 rfl rfl (impl_Colouring_code_ac k p0 (impl_RenumberPoints_c1 k p1 p0) 53 ([.pv ([.sl none (intsD p1)]) 0, .pv (colD p0) 0]) Tryz.call53 (fun r h => impl_RenumberPoints_c1_ac k p1 p0 r h) _ hr1) rfl ?_
 refine kN 1 rfl ?_
 refine kR ?_
 refine kM 1 rfl ?_
 refine AOps_q 10 _ rfl rfl rfl (QOp_neq _ _ _ _ _ _ _ rfl rfl rfl) ?_
 refine AOps_nil ?_
 refine kI h rfl (fun h _ => ?_) (fun h _ => ?_)
 ·refine kR ?_
  refine AOps_q 11 _ rfl rfl rfl (QOp_build _ _ [] [] [] _ (colD Col.zero) (colD (⟨0, 0, B136.zero⟩ : Col)) [(0, 1), (1, 1), (2, 136)] rfl rfl Tryz.underlying26 (zero_of Tryz.typeInfo26 rfl) (fun w => by simp [Tryz.sizeOf2, Tryz.sizeOf2, Tryz.sizeOf24]) rfl (by rfl) (by rfl) (fun _ h => nomatch h)) ?_
  refine kM 1 rfl ?_
  refine AOps_store _ _ _ _ _ _ (colD _) _ _ rfl rfl rfl rfl rfl rfl rfl (colD_one _) (by rw [colD_length]; exact Tryz.sizeOf26) (by rw [colD_length, colD_length]; decide) (colD_whole _ _) ?_
  refine kN 1 rfl ?_
  refine ACode_ret ?_
  cases h
  exact ⟨_, _, fun r a w h => ⟨r, h⟩, _, _, [], _, (.cons (ResV_agg _ _ _ _ _ _ Tryz.isAgg26 Tryz.sizeOf26 rfl rfl (colD_take _) (colD_length _)) (.cons (ResV_tmp _ _ rfl) .nil)), rfl, rfl, rfl, rfl, rfl⟩
 refine ACode_skip ?_
 refine kR ?_
 refine AOps_q 13 _ rfl rfl rfl (QOp_load_pv _ _ _ _ _ rfl Tryz.isAgg29 rfl rfl) ?_
 obtain ⟨r3, hr3, h⟩ := bindO h
 refine kC [] 14 (.d (.agg (colD r3))) [.box (colD Col.zero)] rfl Tryz.call50 rfl rfl (impl_Colouring_renumbered_ac k p0 p1 _ hr3) rfl ?_
 refine AOps_store _ _ _ _ _ _ (colD _) _ _ rfl rfl rfl rfl rfl rfl rfl (colD_one _) (by rw [colD_length]; exact Tryz.sizeOf26) (by rw [colD_length, colD_length]; decide) (colD_whole _ _) ?_
 refine kN 1 rfl ?_
 refine ACode_ret ?_
 cases h
 exact ⟨_, _, fun r a w h => ⟨r, h⟩, _, _, [], _, (.cons (ResV_agg _ _ _ _ _ _ Tryz.isAgg26 Tryz.sizeOf26 rfl rfl (colD_take _) (colD_length _)) (.cons (ResV_tmp _ _ rfl) .nil)), rfl, rfl, rfl, rfl, rfl⟩

-- loop.example/g01362/impl.ExchangeColours$1
def impl_ExchangeColours_c1 (k : Nat) (p0 : List Int) (p1 : Col) : Option (Bool) :=
 (impl_isOrder k p0 p1.k).bind fun r1 => some r1
set_option maxRecDepth 100000 in
theorem impl_ExchangeColours_c1_ac (k : Nat) (p0 : List Int) (p1 : Col) (r : Bool) (h : impl_ExchangeColours_c1 k p0 p1 = some r) : AC Tryz.prog 54 [.d (.pv ([.sl none (intsD p0)]) 0), .d (.pv (colD p1) 0)] [] (fun res H' => res = [bV r] ∧ H' = []) := by
 refine AC_of_body true Tryz.func54 rfl Tryz.ntmps54 (rvs := [.tmp 2]) rfl rfl (fun G hG => ?_)
 have hm : G.H.length = 0 := by rw [hG]; rfl
 have hz : zeroG G.H = true := by rw [hG]; rfl
 unfold impl_ExchangeColours_c1 at h
 refine kR ?_
 refine kN 1 rfl ?_
 refine kR ?_
 refine AOps_q 3 _ rfl rfl rfl (QOp_load_pv _ _ _ _ _ rfl Tryz.isAgg29 rfl rfl) ?_
 refine AOps_q 4 _ rfl rfl rfl (QOp_fieldAddr_pv _ _ _ _ _ 1 _ _ rfl Tryz.underlying26 rfl _ Tryz.sizeOf2 rfl rfl) ?_
 refine AOps_q 5 _ rfl rfl rfl (QOp_load_pv _ _ _ _ _ rfl Tryz.isAgg2 rfl rfl) ?_
 obtain ⟨r1, hr1, h⟩ := bindO h
 refine kC [] 6 (bV r1) [] rfl Tryz.call49 rfl rfl (impl_isOrder_ac k p0 p1.k _ hr1) rfl ?_
 refine kN 1 rfl ?_
 refine ACode_ret ?_
 cases h
 exact ⟨_, _, fun r a w h => ⟨r, h⟩, _, _, [], _, (.cons (ResV_tmp _ _ rfl) .nil), rfl, rfl, rfl, rfl, rfl⟩

-- loop.example/g01362/impl.ExchangeColours$2
def impl_ExchangeColours_c2 (p0 : Int) (p1 : List Int) : Option (Int) :=
 (if 0 ≤ p0 ∧ p0 < (p1.length : Int) then some (p1.getD p0.toNat 0) else none)
set_option maxRecDepth 100000 in
theorem impl_ExchangeColours_c2_ac (p0 : Int) (p1 : List Int) (r : Int) (h : impl_ExchangeColours_c2 p0 p1 = some r) : AC Tryz.prog 56 [iV p0, .d (.pv ([.sl none (intsD p1)]) 0)] [] (fun res H' => res = [iV r] ∧ H' = []) := by
 refine AC_of_body true Tryz.func56 rfl Tryz.ntmps56 (rvs := [.tmp 3]) rfl rfl (fun G hG => ?_)
 have hm : G.H.length = 0 := by rw [hG]; rfl
 have hz : zeroG G.H = true := by rw [hG]; rfl
 unfold impl_ExchangeColours_c2 at h
 refine kR ?_
 refine kN 1 rfl ?_
 refine kR ?_
 refine AOps_q 4 _ rfl rfl rfl (QOp_load_pv _ _ _ _ _ rfl Tryz.isAgg29 rfl rfl) ?_
 refine kM 1 rfl ?_
 obtain ⟨hc1, h⟩ := guardO h
 refine AOps_q 6 _ rfl rfl rfl (QOp_indexAddr_sl _ _ _ _ _ _ _ _ rfl Tryz.underlying29 Tryz.sizeOf2 hc1.1 (by rw [intsD_length]; exact hc1.2) rfl rfl) ?_
 refine AOps_q 7 _ rfl rfl rfl (QOp_load_pv _ _ _ _ _ rfl Tryz.isAgg2 rfl (intsD_get _ _ 0 (by omega))) ?_
 refine kN 1 rfl ?_
 refine ACode_ret ?_
 cases h
 exact ⟨_, _, fun r a w h => ⟨r, h⟩, _, _, [], _, (.cons (ResV_tmp _ _ rfl) .nil), rfl, rfl, rfl, rfl, rfl⟩

-- loop.example/g01362/impl.ExchangeColours
def impl_ExchangeColours (k : Nat) (p0 : Col) (p1 : List Int) : Option (Col × Int) :=
 (impl_Colouring_code k p0 (impl_ExchangeColours_c1 k p1 p0)).bind fun r1 => (if !decide (r1 = 0) then some ((⟨0, 0, B136.zero⟩ : Col), r1) else (impl_Colouring_recoloured k p0 p0.k (fun a0 => impl_ExchangeColours_c2 a0 p1)).bind fun r3 => some (r3, 0))
set_option maxRecDepth 100000 in
theorem impl_ExchangeColours_ac (k : Nat) (p0 : Col) (p1 : List Int) (r : Col × Int) (h : impl_ExchangeColours k p0 p1 = some r) : AC Tryz.prog 18 [.d (.agg (colD p0)), .d (.sl none (intsD p1))] [] (fun res H' => res = [.d (.agg (colD r.1)), iV r.2] ∧ H' = []) := by
 refine AC_of_body true Tryz.func18 rfl Tryz.ntmps18 (rvs := [.cell 4 26, .tmp 5]) rfl rfl (fun G hG => ?_)
 have hm : G.H.length = 0 := by rw [hG]; rfl
 have hz : zeroG G.H = true := by rw [hG]; rfl
 unfold impl_ExchangeColours at h
 refine kR ?_
 refine AOps_boxI 2 _ _ (.agg (colD p0)) (colD p0) rfl (colD_one _) rfl rfl rfl rfl rfl ?_
 refine AOps_boxI 3 _ _ (.sl none (intsD p1)) _ rfl (fun c hc => by cases hc with | head => rfl | tail _ h => cases h) rfl rfl rfl rfl rfl ?_
 refine AOps_alloc 4 _ _ (colD Col.zero) (zero_of Tryz.typeInfo26 rfl) (by rfl) rfl rfl rfl rfl ?_
 refine kN 1 rfl ?_
 refine ACode_seq ?_
 refine kR ?_
 refine AOps_q 7 _ rfl rfl rfl (QOp_makeFuncD _ _ _ _ rfl rfl rfl) ?_
 obtain ⟨r1, hr1, h⟩ := bindO h
 refine kC [] 8 (iV r1) [.box (colD Col.zero)] rfl Tryz.call52 rfl rfl (impl_Colouring_code_ac k p0 (impl_ExchangeColours_c1 k p1 p0) 54 ([.pv ([.sl none (intsD p1)]) 0, .pv (colD p0) 0]) Tryz.call54 (fun r h => impl_ExchangeColours_c1_ac k p1 p0 r h) _ hr1) rfl ?_
 refine kN 1 rfl ?_
 refine kR ?_
 refine kM 1 rfl ?_
 refine AOps_q 10 _ rfl rfl rfl (QOp_neq _ _ _ _ _ _ _ rfl rfl rfl) ?_
 refine AOps_nil ?_
 refine kI h rfl (fun h _ => ?_) (fun h _ => ?_)
 ·refine kR ?_
  refine AOps_q 11 _ rfl rfl rfl (QOp_build _ _ [] [] [] _ (colD Col.zero) (colD (⟨0, 0, B136.zero⟩ : Col)) [(0, 1), (1, 1), (2, 136)] rfl rfl Tryz.underlying26 (zero_of Tryz.typeInfo26 rfl) (fun w => by simp [Tryz.sizeOf2, Tryz.sizeOf2, Tryz.sizeOf24]) rfl (by rfl) (by rfl) (fun _ h => nomatch h)) ?_
  refine kM 1 rfl ?_
  refine AOps_store _ _ _ _ _ _ (colD _) _ _ rfl rfl rfl rfl rfl rfl rfl (colD_one _) (by rw [colD_length]; exact Tryz.sizeOf26) (by rw [colD_length, colD_length]; decide) (colD_whole _ _) ?_
  refine kN 1 rfl ?_
  refine ACode_ret ?_
  cases h
  exact ⟨_, _, fun r a w h => ⟨r, h⟩, _, _, [], _, (.cons (ResV_agg _ _ _ _ _ _ Tryz.isAgg26 Tryz.sizeOf26 rfl rfl (colD_take _) (colD_length _)) (.cons (ResV_tmp _ _ rfl) .nil)), rfl, rfl, rfl, rfl, rfl⟩
 refine ACode_skip ?_
 refine kR ?_
 refine AOps_q 13 _ rfl rfl rfl (QOp_fieldAddr_pv _ _ _ _ _ 1 _ _ rfl Tryz.underlying26 rfl _ Tryz.sizeOf2 rfl rfl) ?_
 refine AOps_q 14 _ rfl rfl rfl (QOp_load_pv _ _ _ _ _ rfl Tryz.isAgg2 rfl rfl) ?_
 refine AOps_q 15 _ rfl rfl rfl (QOp_makeFuncD _ _ _ _ rfl rfl rfl) ?_
 obtain ⟨r3, hr3, h⟩ := bindO h
 refine kC [] 16 (.d (.agg (colD r3))) [.box (colD Col.zero)] rfl Tryz.call55 rfl rfl (impl_Colouring_recoloured_ac k p0 p0.k (fun a0 => impl_ExchangeColours_c2 a0 p1) 56 ([.pv ([.sl none (intsD p1)]) 0]) Tryz.call56 (fun a0 r h => impl_ExchangeColours_c2_ac a0 p1 r h) _ hr3) rfl ?_
 refine AOps_store _ _ _ _ _ _ (colD _) _ _ rfl rfl rfl rfl rfl rfl rfl (colD_one _) (by rw [colD_length]; exact Tryz.sizeOf26) (by rw [colD_length, colD_length]; decide) (colD_whole _ _) ?_
 refine kN 1 rfl ?_
 refine ACode_ret ?_
 cases h
 exact ⟨_, _, fun r a w h => ⟨r, h⟩, _, _, [], _, (.cons (ResV_agg _ _ _ _ _ _ Tryz.isAgg26 Tryz.sizeOf26 rfl rfl (colD_take _) (colD_length _)) (.cons (ResV_tmp _ _ rfl) .nil)), rfl, rfl, rfl, rfl, rfl⟩

-- loop.example/g01362/impl.always
def impl_always : Bool :=
 true
set_option maxRecDepth 100000 in
theorem impl_always_ac : AC Tryz.prog 57 [] [] (fun res H' => res = [bV (impl_always)] ∧ H' = []) := by
 refine AC_of_body true Tryz.func57 rfl Tryz.ntmps57 (rvs := [.tmp 0]) rfl rfl (fun G hG => ?_)
 have hm : G.H.length = 0 := by rw [hG]; rfl
 have hz : zeroG G.H = true := by rw [hG]; rfl
 obtain ⟨r, h⟩ : ∃ r, impl_always = r := ⟨_, rfl⟩
 rw [h]
 unfold impl_always at h
 refine kR ?_
 refine kN 1 rfl ?_
 refine kR ?_
 refine kN 1 rfl ?_
 refine ACode_ret ?_
 cases h
 exact ⟨_, _, fun r a w h => ⟨r, h⟩, _, _, [], _, (.cons (ResV_tmp _ _ rfl) .nil), rfl, rfl, rfl, rfl, rfl⟩

-- (*loop.example/g01362/impl.Colouring).greatest$1
def impl_Colouring_greatest_c1 (p0 : List Int) (p1 : List Int) : Bool × List Int :=
 letO (if decide ((p1.length : Int) < (p0.length : Int)) then p0 else p1) fun (s2 : List Int) => (true, s2)
set_option maxRecDepth 100000 in
theorem impl_Colouring_greatest_c1_ac (p0 : List Int) (p1 : List Int) : AC Tryz.prog 117 [.d (.sl none (intsD p0)), .ptr 0 0] [.box [.sl none (intsD p1)]] (fun res H' => res = [bV ((impl_Colouring_greatest_c1 p0 p1).1)] ∧ H' = [.box [.sl none (intsD ((impl_Colouring_greatest_c1 p0 p1).2))]]) := by
 refine AC_of_body true Tryz.func117 rfl Tryz.ntmps117 (rvs := [.tmp 3]) rfl rfl (fun G hG => ?_)
 have hm : G.H.length = 1 := by rw [hG]; rfl
 have hz : zeroG G.H = true := by rw [hG]; rfl
 obtain ⟨r, h⟩ : ∃ r, impl_Colouring_greatest_c1 p0 p1 = r := ⟨_, rfl⟩
 rw [h]
 unfold impl_Colouring_greatest_c1 at h
 refine kR ?_
 refine kN 1 rfl ?_
 refine kL (fun s2 => []) (fun s2 => [.box [.sl none (intsD s2)]]) h (fun s2 h => ?_) (fun s2 h => ?_)
 ·refine kR ?_
  refine kM 1 rfl ?_
  refine AOps_q 5 _ rfl rfl rfl (QOp_len_sl _ _ _ _ _ _ _ (intsD_length _) rfl rfl rfl rfl Tryz.underlying29 rfl) ?_
  refine AOps_q 6 _ rfl rfl rfl (QOp_load_ptr _ _ _ _ _ _ rfl Tryz.isAgg29 rfl rfl rfl) ?_
  refine AOps_q 7 _ rfl rfl rfl (QOp_len_sl _ _ _ _ _ _ _ (intsD_length _) rfl rfl rfl rfl Tryz.underlying29 rfl) ?_
  refine AOps_q 8 _ rfl rfl rfl (QOp_gtr _ _ _ _ _ _ _ rfl rfl rfl) ?_
  refine AOps_nil ?_
  refine kI h rfl (fun h _ => ?_) (fun h _ => ?_)
  ·refine (ACode_region ?_)
   refine kM 1 rfl ?_
   refine AOps_store1 _ _ _ _ _ _ _ _ rfl rfl rfl rfl rfl rfl rfl Tryz.sizeOf29 (Nat.le_of_ble_eq_true rfl) rfl ?_
   refine AOps_nil ?_
   cases h
   exact Weak_keep 1 hm [] [] _ _ rfl rfl rfl
  refine ACode_skip ?_
  cases h
  exact Weak_keep 1 hm [] [] _ _ rfl rfl rfl
 refine kR ?_
 refine kN 1 rfl ?_
 refine ACode_ret ?_
 cases h
 exact ⟨_, _, fun r a w h => ⟨r, h⟩, _, _, [], _, (.cons (ResV_tmp _ _ rfl) .nil), rfl, rfl, rfl, rfl, rfl⟩

-- slices.IndexFunc[[]int64,int64]
def slices_IndexFunc_l0 (p0 : List Int) (p1 : Int → Option (Bool)) : Nat → Int → Option (Sum (Unit) (Int))
 | 0, _ => none
 | k0 + 1, x1 => (if decide (x1 < (p0.length : Int)) then (if 0 ≤ x1 ∧ x1 < (p0.length : Int) then (p1 (p0.getD x1.toNat 0)).bind fun r4 => (if r4 then some (.inr x1) else slices_IndexFunc_l0 p0 p1 k0 (w64 (x1 + 1))) else none) else some (.inl ()))
def slices_IndexFunc (k : Nat) (p0 : List Int) (p1 : Int → Option (Bool)) : Option (Int) :=
 (slices_IndexFunc_l0 p0 p1 k 0 : Option (Sum (Unit) (Int))).bind fun os6 => (match os6 with | .inl s6 => some (-1) | .inr rr => some rr)
set_option maxRecDepth 100000 in
theorem slices_IndexFunc_ac (k : Nat) (p0 : List Int) (p1 : Int → Option (Bool)) (g_p1 : FuncId) (c_p1 : List D) (hg_p1 : ∀ args w, (callFunc g_p1 args).run Tryz.prog w = .ok (.enter g_p1 args) w) (hf_p1 : ∀ (a0 : Int) (r : Bool), p1 a0 = some r → AC Tryz.prog g_p1 ([iV a0] ++ c_p1.map AV.d) [] (fun res H' => res = [bV r] ∧ H' = [])) (r : Int) (h : slices_IndexFunc k p0 p1 = some r) : AC Tryz.prog 147 [.d (.sl none (intsD p0)), .d (.clo g_p1 c_p1)] [] (fun res H' => res = [iV r] ∧ H' = []) := by
 refine AC_of_body true Tryz.func147 rfl Tryz.ntmps147 (rvs := [.tmp 4]) rfl rfl (fun G hG => ?_)
 have hm : G.H.length = 0 := by rw [hG]; rfl
 have hz : zeroG G.H = true := by rw [hG]; rfl
 unfold slices_IndexFunc at h
 refine kR ?_
 refine kN 1 rfl ?_
 refine kO (fun s6 => []) (fun s6 => []) h (fun os6 h hks6 => ?_) (fun s6 h => ?_)
 ·refine kR ?_
  refine kM 1 rfl ?_
  refine AOps_q 7 _ rfl rfl rfl (QOp_len_sl _ _ _ _ _ _ _ (intsD_length _) rfl rfl rfl rfl Tryz.underlying29 rfl) ?_
  refine kN 1 rfl ?_
  refine ACode_block ?_
  refine ACode_loopW (fun k0 E H => ∃ (x1 : Int), E = [(0, .d (.sl none (intsD p0))), (1, .d (.clo g_p1 c_p1)), (7, iV (p0.length : Int)), (8, iV x1)] ∧ H = [] ∧ slices_IndexFunc_l0 p0 p1 k0 x1 = some os6) k _ _ (Weak_keep 0 hm [0, 1, 7, 8] [] _ _ rfl rfl rfl) ⟨_, rfl, rfl, h⟩ ?_
  clear h
  rintro k0 E H ⟨x1, rfl, rfl, h⟩
  cases k0 with
  | zero => cases (show (none : Option (Sum (Unit) (Int))) = some _ from h)
  | succ k0 =>
   rw [slices_IndexFunc_l0] at h
   refine kR ?_
   refine AOps_q 9 _ rfl rfl rfl (QOp_lss _ _ _ _ _ _ _ rfl rfl rfl) ?_
   refine AOps_nil ?_
   refine ACode_seq ?_
   refine kI h rfl (fun h _ => ?_) (fun h _ => ?_)
   ·refine ACode_skip ?_
    refine ACode_seq ?_
    refine ACode_block ?_
    refine kR ?_
    refine kN 2 rfl ?_
    refine kR ?_
    refine kM 3 rfl ?_
    obtain ⟨hc3, h⟩ := guardO h
    refine AOps_q 14 _ rfl rfl rfl (QOp_indexAddr_sl _ _ _ _ _ _ _ _ rfl Tryz.underlying29 Tryz.sizeOf2 hc3.1 (by rw [intsD_length]; exact hc3.2) rfl rfl) ?_
    refine AOps_q 15 _ rfl rfl rfl (QOp_load_pv _ _ _ _ _ rfl Tryz.isAgg2 rfl (intsD_get _ _ 0 (by omega))) ?_
    obtain ⟨r4, hr4, h⟩ := bindO h
    refine kC [] 16 (bV r4) [] rfl hg_p1 rfl (viewA_mapD _) (hf_p1 (p0.getD x1.toNat 0) _ hr4) rfl ?_
    refine AOps_nil ?_
    refine kI h rfl (fun h _ => ?_) (fun h _ => ?_)
    ·refine kR ?_
     refine kN 2 rfl ?_
     refine ACode_ret ?_
     cases h
     have h := hks6
     cases h
     exact ⟨_, _, fun r a w h => ⟨r, h⟩, _, _, [], _, (.cons (ResV_tmp _ _ rfl) .nil), rfl, rfl, rfl, rfl, rfl⟩
    refine ACode_skip ?_
    refine (ACode_region ?_)
    refine AOps_q 18 _ rfl rfl rfl (QOp_add _ _ _ _ _ _ _ rfl rfl rfl) ?_
    refine kN 1 rfl ?_
    exact ⟨k0, _, _, Nat.lt_succ_self _, Weak_keep 0 hm [0, 1, 7, 8] [] _ _ rfl rfl rfl, _, rfl, rfl, h⟩
   refine ACode_exit ?_
   cases h
   exact ⟨_, rfl, Weak_keep 0 hm [] [] _ _ rfl rfl rfl⟩
 refine kR ?_
 refine kN 1 rfl ?_
 refine ACode_ret ?_
 cases h
 exact ⟨_, _, fun r a w h => ⟨r, h⟩, _, _, [], _, (.cons (ResV_tmp _ _ rfl) .nil), rfl, rfl, rfl, rfl, rfl⟩

-- slices.ContainsFunc[[]int64,int64]
def slices_ContainsFunc (k : Nat) (p0 : List Int) (p1 : Int → Option (Bool)) : Option (Bool) :=
 (slices_IndexFunc k p0 p1).bind fun r1 => some (decide (0 ≤ r1))
set_option maxRecDepth 100000 in
theorem slices_ContainsFunc_ac (k : Nat) (p0 : List Int) (p1 : Int → Option (Bool)) (g_p1 : FuncId) (c_p1 : List D) (hg_p1 : ∀ args w, (callFunc g_p1 args).run Tryz.prog w = .ok (.enter g_p1 args) w) (hf_p1 : ∀ (a0 : Int) (r : Bool), p1 a0 = some r → AC Tryz.prog g_p1 ([iV a0] ++ c_p1.map AV.d) [] (fun res H' => res = [bV r] ∧ H' = [])) (r : Bool) (h : slices_ContainsFunc k p0 p1 = some r) : AC Tryz.prog 138 [.d (.sl none (intsD p0)), .d (.clo g_p1 c_p1)] [] (fun res H' => res = [bV r] ∧ H' = []) := by
 refine AC_of_body true Tryz.func138 rfl Tryz.ntmps138 (rvs := [.tmp 4]) rfl rfl (fun G hG => ?_)
 have hm : G.H.length = 0 := by rw [hG]; rfl
 have hz : zeroG G.H = true := by rw [hG]; rfl
 unfold slices_ContainsFunc at h
 refine kR ?_
 refine kN 1 rfl ?_
 refine kR ?_
 refine kM 2 rfl ?_
 obtain ⟨r1, hr1, h⟩ := bindO h
 refine kC [] 7 (iV r1) [] rfl Tryz.call147 rfl rfl (slices_IndexFunc_ac k p0 p1 g_p1 c_p1 hg_p1 hf_p1 _ hr1) rfl ?_
 refine AOps_q 8 _ rfl rfl rfl (QOp_geq _ _ _ _ _ _ _ rfl rfl rfl) ?_
 refine kN 1 rfl ?_
 refine ACode_ret ?_
 cases h
 exact ⟨_, _, fun r a w h => ⟨r, h⟩, _, _, [], _, (.cons (ResV_tmp _ _ rfl) .nil), rfl, rfl, rfl, rfl, rfl⟩

-- (*loop.example/g01362/impl.Colouring).joins
def impl_Colouring_joins (p0 : Col) (p1 : Int) (p2 : Int) (p3 : Int) : Option (Bool) :=
 ((if !decide (p1 = p2) then (impl_Colouring_at p0 p1 p2).bind fun r2 => some (decide (r2 = p3)) else some false) : Option (Bool)).bind fun s3 => some s3
set_option maxRecDepth 100000 in
theorem impl_Colouring_joins_ac (p0 : Col) (p1 : Int) (p2 : Int) (p3 : Int) (r : Bool) (h : impl_Colouring_joins p0 p1 p2 p3 = some r) : AC Tryz.prog 140 [.d (.pv (colD p0) 0), iV p1, iV p2, iV p3] [] (fun res H' => res = [bV r] ∧ H' = []) := by
 refine AC_of_body true Tryz.func140 rfl Tryz.ntmps140 (rvs := [.tmp 8]) rfl rfl (fun G hG => ?_)
 have hm : G.H.length = 0 := by rw [hG]; rfl
 have hz : zeroG G.H = true := by rw [hG]; rfl
 unfold impl_Colouring_joins at h
 refine kR ?_
 refine kN 1 rfl ?_
 refine kB (fun s3 => [(8, bV s3)]) (fun s3 => []) h (fun s3 h => ?_) (fun s3 h => ?_)
 ·refine (ACode_region ?_)
  refine kM 2 rfl ?_
  refine AOps_q 11 _ rfl rfl rfl (QOp_neq _ _ _ _ _ _ _ rfl rfl rfl) ?_
  refine kM 1 rfl ?_
  refine AOps_case 12 _ rfl (fun hb1 => ?_) (fun hb1 => ?_)
  ·have h := iteT hb1 h
   refine kM 3 rfl ?_
   obtain ⟨r2, hr2, h⟩ := bindO h
   refine kC [] 16 (iV r2) [] rfl Tryz.call95 rfl rfl (impl_Colouring_at_ac p0 p1 p2 _ hr2) rfl ?_
   refine kM 1 rfl ?_
   refine AOps_q 18 _ rfl rfl rfl (QOp_eql _ _ _ _ _ _ _ rfl rfl rfl) ?_
   refine kN 2 rfl ?_
   cases h
   exact Weak_keep 0 hm [8] [] _ _ rfl rfl rfl
  have h := iteF hb1 h
  refine AOps_skip 13 rfl rfl rfl ?_
  refine AOps_skip 14 rfl rfl rfl ?_
  refine AOps_skip 15 rfl rfl rfl ?_
  refine AOps_skip 16 rfl rfl rfl ?_
  refine AOps_skip 17 rfl rfl rfl ?_
  refine AOps_skip 18 rfl rfl rfl ?_
  refine kN 2 rfl ?_
  cases h
  exact Weak_keep 0 hm [8] [] _ _ rfl rfl rfl
 refine ACode_ret ?_
 cases h
 exact ⟨_, _, fun r a w h => ⟨r, h⟩, _, _, [], _, (.cons (ResV_tmp _ _ rfl) .nil), rfl, rfl, rfl, rfl, rfl⟩

-- (*loop.example/g01362/impl.Colouring).goesWith$1
def impl_Colouring_goesWith_c1 (p0 : Int) (p1 : Col) (p2 : Int) (p3 : Int) : Option (Bool) :=
 (impl_Colouring_joins p1 p0 p2 p3).bind fun r1 => some (!r1)
set_option maxRecDepth 100000 in
theorem impl_Colouring_goesWith_c1_ac (p0 : Int) (p1 : Col) (p2 : Int) (p3 : Int) (r : Bool) (h : impl_Colouring_goesWith_c1 p0 p1 p2 p3 = some r) : AC Tryz.prog 139 [iV p0, .d (.pv ([.pv (colD p1) 0]) 0), .d (.pv ([iD p2]) 0), .d (.pv ([iD p3]) 0)] [] (fun res H' => res = [bV r] ∧ H' = []) := by
 refine AC_of_body true Tryz.func139 rfl Tryz.ntmps139 (rvs := [.tmp 5]) rfl rfl (fun G hG => ?_)
 have hm : G.H.length = 0 := by rw [hG]; rfl
 have hz : zeroG G.H = true := by rw [hG]; rfl
 unfold impl_Colouring_goesWith_c1 at h
 refine kR ?_
 refine kN 1 rfl ?_
 refine kR ?_
 refine AOps_q 6 _ rfl rfl rfl (QOp_load_pv _ _ _ _ _ rfl Tryz.isAgg57 rfl rfl) ?_
 refine kM 1 rfl ?_
 refine AOps_q 8 _ rfl rfl rfl (QOp_load_pv _ _ _ _ _ rfl Tryz.isAgg2 rfl rfl) ?_
 refine AOps_q 9 _ rfl rfl rfl (QOp_load_pv _ _ _ _ _ rfl Tryz.isAgg2 rfl rfl) ?_
 obtain ⟨r1, hr1, h⟩ := bindO h
 refine kC [] 10 (bV r1) [] rfl Tryz.call140 rfl rfl (impl_Colouring_joins_ac p1 p0 p2 p3 _ hr1) rfl ?_
 refine AOps_q 11 _ rfl rfl rfl (QOp_not _ _ _ rfl rfl) ?_
 refine kN 1 rfl ?_
 refine ACode_ret ?_
 cases h
 exact ⟨_, _, fun r a w h => ⟨r, h⟩, _, _, [], _, (.cons (ResV_tmp _ _ rfl) .nil), rfl, rfl, rfl, rfl, rfl⟩

-- (*loop.example/g01362/impl.Colouring).goesWith
def impl_Colouring_goesWith (k : Nat) (p0 : Col) (p1 : Int) (p2 : List Int) (p3 : Int) : Option (Bool) :=
 (slices_ContainsFunc k p2 (fun a0 => impl_Colouring_goesWith_c1 a0 p0 p3 p1)).bind fun r1 => some (!r1)
set_option maxRecDepth 100000 in
theorem impl_Colouring_goesWith_ac (k : Nat) (p0 : Col) (p1 : Int) (p2 : List Int) (p3 : Int) (r : Bool) (h : impl_Colouring_goesWith k p0 p1 p2 p3 = some r) : AC Tryz.prog 126 [.d (.pv (colD p0) 0), iV p1, .d (.sl none (intsD p2)), iV p3] [] (fun res H' => res = [bV r] ∧ H' = []) := by
 refine AC_of_body true Tryz.func126 rfl Tryz.ntmps126 (rvs := [.tmp 8]) rfl rfl (fun G hG => ?_)
 have hm : G.H.length = 0 := by rw [hG]; rfl
 have hz : zeroG G.H = true := by rw [hG]; rfl
 unfold impl_Colouring_goesWith at h
 refine kR ?_
 refine AOps_boxI 4 _ _ (.pv (colD p0) 0) _ rfl (fun c hc => by cases hc with | head => rfl | tail _ h => cases h) rfl rfl rfl rfl rfl ?_
 refine AOps_boxI 5 _ _ (iD p1) _ rfl (fun c hc => by cases hc with | head => rfl | tail _ h => cases h) rfl rfl rfl rfl rfl ?_
 refine AOps_boxI 7 _ _ (iD p3) _ rfl (fun c hc => by cases hc with | head => rfl | tail _ h => cases h) rfl rfl rfl rfl rfl ?_
 refine kN 1 rfl ?_
 refine kR ?_
 refine kM 1 rfl ?_
 refine AOps_q 10 _ rfl rfl rfl (QOp_makeFuncD _ _ _ _ rfl rfl rfl) ?_
 obtain ⟨r1, hr1, h⟩ := bindO h
 refine kC [] 11 (bV r1) [] rfl Tryz.call138 rfl rfl (slices_ContainsFunc_ac k p2 (fun a0 => impl_Colouring_goesWith_c1 a0 p0 p3 p1) 139 ([.pv ([.pv (colD p0) 0]) 0, .pv ([iD p3]) 0, .pv ([iD p1]) 0]) Tryz.call139 (fun a0 r h => impl_Colouring_goesWith_c1_ac a0 p0 p3 p1 r h) _ hr1) rfl ?_
 refine AOps_q 12 _ rfl rfl rfl (QOp_not _ _ _ rfl rfl) ?_
 refine kN 1 rfl ?_
 refine ACode_ret ?_
 cases h
 exact ⟨_, _, fun r a w h => ⟨r, h⟩, _, _, [], _, (.cons (ResV_tmp _ _ rfl) .nil), rfl, rfl, rfl, rfl, rfl⟩

end Go.Proofs.YtfnbhfobgimnjaaGreat
