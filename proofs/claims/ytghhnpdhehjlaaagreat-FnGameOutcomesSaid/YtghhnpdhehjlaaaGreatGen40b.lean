/- Plain functions of the program and that the program computes them: printed by the own tool gen.py. No conditions. -/
import Derived.Test.YtghhnpdhehjlaaaGreatGen40a
set_option linter.unusedVariables false
set_option linter.unusedSimpArgs false
namespace Go.Proofs.YtghhnpdhehjlaaaGreat
open Go Go.RowKit Ab

-- loop.example/g01362/spec.l09Outcome
def spec_l09Outcome_l0 (k : Nat) (self : Int → (List Int) → (List Int) → Option (Int × List Int)) (p0 : Int) (p1 : List Int) (r7 : Int) (r8 : List Int) : Nat → Int → Int → (List Int) → Option (Int × List Int)
 | 0, _, _, _ => none
 | k0 + 1, x9, x10, x11 => (letO (if decide (x10 < (r8.length : Int)) then !decide (x9 = r7) else false) fun (s13 : Bool) => (if s13 then some (.inl ()) else (some (x9, x11)).bind fun rr => some (.inr rr)) : Option (Sum (Unit) (Int × List Int))).bind fun os15 => (match os15 with | .inl s15 => ((if 0 ≤ x10 ∧ x10 < (r8.length : Int) then (spec_l09Move k p1 (r8.getD x10.toNat 0)).bind fun r17 => (self p0 r17 x11).bind fun r18 => letO (if decide (r18.1 = r7) then true else decide (r18.1 = 2)) fun (s20 : Bool) => (if s20 then some (r18.1, r18.2) else some (x9, r18.2)) else none) : Option (Int × List Int)).bind fun s22 => spec_l09Outcome_l0 k self p0 p1 r7 r8 k0 s22.1 (w64 (x10 + 1)) s22.2 | .inr rr => some rr)
def spec_l09Outcome_body (self : Int → (List Int) → (List Int) → Option (Int × List Int)) (k : Nat) (p0 : Int) (p1 : List Int) (p2 : List Int) : Option (Int × List Int) :=
 (spec_l09Number k p1).bind fun r1 => (if 0 ≤ r1 ∧ r1 < (p2.length : Int) then (if decide (0 ≤ (p2.getD r1.toNat 0)) then (if 0 ≤ r1 ∧ r1 < (p2.length : Int) then some ((p2.getD r1.toNat 0), p2) else none) else (spec_l09Result k p0 p1).bind fun r5 => ((if decide (r5 < 0) then (spec_l09Mover k p1).bind fun r7 => (spec_l09Free k p1).bind fun r8 => spec_l09Outcome_l0 k self p0 p1 r7 r8 k (w64 (1 - r7)) 0 p2 else some (r5, p2)) : Option (Int × List Int)).bind fun s23 => (if 0 ≤ r1 ∧ r1 < (s23.2.length : Int) then some (s23.1, s23.2.set r1.toNat s23.1) else none)) else none)
def spec_l09Outcome : Nat → Int → (List Int) → (List Int) → Option (Int × List Int)
 | 0, _, _, _ => none
 | k + 1, p0, p1, p2 => spec_l09Outcome_body (spec_l09Outcome k) k p0 p1 p2
set_option maxRecDepth 100000 in
theorem spec_l09Outcome_ac (k : Nat) (p0 : Int) (p1 : List Int) (p2 : List Int) (r : Int × List Int) (h : spec_l09Outcome k p0 p1 p2 = some r) : AC Tryz.prog 100 [iV p0, .d (.sl none (intsD p1)), .vec 0 0] [.vec 0 (intsD p2)] (fun res H' => res = [iV r.1] ∧ H' = [.vec 0 (intsD r.2)]) := by
 induction k generalizing p0 p1 p2 r with
 | zero => simp [spec_l09Outcome] at h
 | succ k ih =>
  rw [spec_l09Outcome] at h
  obtain ⟨self, hself, hk⟩ : ∃ self : Int → (List Int) → (List Int) → Option (Int × List Int), (∀ (p0 : Int) (p1 : List Int) (p2 : List Int) (r : Int × List Int), self p0 p1 p2 = some r → AC Tryz.prog 100 [iV p0, .d (.sl none (intsD p1)), .vec 0 0] [.vec 0 (intsD p2)] (fun res H' => res = [iV r.1] ∧ H' = [.vec 0 (intsD r.2)])) ∧ spec_l09Outcome k = self := ⟨spec_l09Outcome k, fun p0 p1 p2 r h => ih p0 p1 p2 r h, rfl⟩
  rw [hk] at h
  clear ih hk
  refine AC_of_body true Tryz.func100 rfl Tryz.ntmps100 (rvs := [.tmp 6]) rfl rfl (fun G hG => ?_)
  have hm : G.H.length = 1 := by rw [hG]; rfl
  have hz : zeroG G.H = true := by rw [hG]; rfl
  unfold spec_l09Outcome_body at h
  refine kR ?_
  refine kN 1 rfl ?_
  refine kR ?_
  refine kM 1 rfl ?_
  obtain ⟨r1, hr1, h⟩ := bindO h
  refine kC [] 14 (iV r1) [.vec 0 (intsD p2)] rfl Tryz.call153 rfl rfl (spec_l09Number_ac k p1 _ hr1) rfl ?_
  refine kN 1 rfl ?_
  refine ACode_seq ?_
  refine kR ?_
  refine kM 2 rfl ?_
  obtain ⟨hc2, h⟩ := guardO h
  refine AOps_q 17 _ rfl rfl rfl (QOp_indexAddr_vec _ _ _ _ _ _ _ _ _ rfl Tryz.underlying27 Tryz.sizeOf2 hc2.1 (by rw [intsD_length]; exact hc2.2) rfl rfl rfl) ?_
  refine AOps_q 18 _ rfl rfl rfl (QOp_load_eptr _ _ _ _ _ _ _ rfl Tryz.isAgg2 rfl rfl (intsD_get _ _ 0 (by omega))) ?_
  refine AOps_q 19 _ rfl rfl rfl (QOp_geq _ _ _ _ _ _ _ rfl rfl rfl) ?_
  refine AOps_nil ?_
  refine kI h rfl (fun h _ => ?_) (fun h _ => ?_)
  ·refine kR ?_
   refine kM 2 rfl ?_
   obtain ⟨hc4, h⟩ := guardO h
   refine AOps_q 22 _ rfl rfl rfl (QOp_indexAddr_vec _ _ _ _ _ _ _ _ _ rfl Tryz.underlying27 Tryz.sizeOf2 hc4.1 (by rw [intsD_length]; exact hc4.2) rfl rfl rfl) ?_
   refine AOps_q 23 _ rfl rfl rfl (QOp_load_eptr _ _ _ _ _ _ _ rfl Tryz.isAgg2 rfl rfl (intsD_get _ _ 0 (by omega))) ?_
   refine kN 1 rfl ?_
   refine ACode_ret ?_
   cases h
   exact ⟨_, _, fun r a w h => ⟨r, h⟩, _, _, [], _, (.cons (ResV_tmp _ _ rfl) .nil), rfl, rfl, rfl, rfl, rfl⟩
  refine ACode_skip ?_
  refine kR ?_
  refine kM 2 rfl ?_
  obtain ⟨r5, hr5, h⟩ := bindO h
  refine kC [] 26 (iV r5) [.vec 0 (intsD p2)] rfl Tryz.call105 rfl rfl (spec_l09Result_ac k p0 p1 _ hr5) rfl ?_
  refine kN 1 rfl ?_
  refine kB (fun s23 => [(2, .vec 0 0), (7, iV r1), (8, iV s23.1)]) (fun s23 => [.vec 0 (intsD s23.2)]) h (fun s23 h => ?_) (fun s23 h => ?_)
  ·refine kR ?_
   refine kM 1 rfl ?_
   refine AOps_q 28 _ rfl rfl rfl (QOp_lss _ _ _ _ _ _ _ rfl rfl rfl) ?_
   refine AOps_nil ?_
   refine kI h rfl (fun h _ => ?_) (fun h _ => ?_)
   ·refine kR ?_
    refine kM 1 rfl ?_
    obtain ⟨r7, hr7, h⟩ := bindO h
    refine kC [] 30 (iV r7) [.vec 0 (intsD p2)] rfl Tryz.call154 rfl rfl (spec_l09Mover_ac k p1 _ hr7) rfl ?_
    refine kN 1 rfl ?_
    refine kR ?_
    refine kM 1 rfl ?_
    refine AOps_q 32 _ rfl rfl rfl (QOp_sub _ _ _ _ _ _ _ rfl rfl rfl) ?_
    refine kN 1 rfl ?_
    refine kR ?_
    refine kM 1 rfl ?_
    obtain ⟨r8, hr8, h⟩ := bindO h
    refine kC [] 34 (.vec 1 0) [.vec 0 (intsD p2), .vec 0 (intsD r8)] rfl Tryz.call155 rfl rfl (spec_l09Free_ac k p1 _ hr8) rfl ?_
    refine kN 1 rfl ?_
    refine kR ?_
    refine kN 1 rfl ?_
    refine ACode_block ?_
    refine ACode_loopW (fun k0 E H => ∃ (x9 : Int) (x10 : Int) (x11 : List Int), E = [(0, iV p0), (1, .d (.sl none (intsD p1))), (2, .vec 0 0), (7, iV r1), (8, iV x9), (9, iV r7), (10, .vec 1 0), (11, iV x10)] ∧ H = [.vec 0 (intsD x11), .vec 0 (intsD r8)] ∧ spec_l09Outcome_l0 k self p0 p1 r7 r8 k0 x9 x10 x11 = some s23) k _ _ (Weak_keep 1 hm [0, 1, 2, 7, 8, 9, 10, 11] [1] _ _ rfl rfl rfl) ⟨_, _, _, rfl, rfl, h⟩ ?_
    clear h
    rintro k0 E H ⟨x9, x10, x11, rfl, rfl, h⟩
    cases k0 with
    | zero => cases (show (none : Option (Int × List Int)) = some _ from h)
    | succ k0 =>
     rw [spec_l09Outcome_l0] at h
     refine kO (fun s15 => [(0, iV p0), (1, .d (.sl none (intsD p1))), (2, .vec 0 0), (7, iV r1), (8, iV x9), (9, iV r7), (10, .vec 1 0), (11, iV x10)]) (fun s15 => [.vec 0 (intsD x11), .vec 0 (intsD r8)]) h (fun os15 h hks15 => ?_) (fun s15 h => ?_)
     ·refine kL (fun s13 => [(0, iV p0), (1, .d (.sl none (intsD p1))), (2, .vec 0 0), (7, iV r1), (8, iV x9), (9, iV r7), (10, .vec 1 0), (11, iV x10), (43, bV s13)]) (fun s13 => [.vec 0 (intsD x11), .vec 0 (intsD r8)]) h (fun s13 h => ?_) (fun s13 h => ?_)
      ·refine (ACode_region ?_)
       refine kM 2 rfl ?_
       refine AOps_q 37 _ rfl rfl rfl (QOp_len_vec _ _ _ _ _ _ _ _ (intsD_length _) rfl rfl rfl rfl Tryz.underlying27 rfl rfl) ?_
       refine AOps_q 38 _ rfl rfl rfl (QOp_lss _ _ _ _ _ _ _ rfl rfl rfl) ?_
       refine kM 1 rfl ?_
       refine AOps_case 39 _ rfl (fun hb12 => ?_) (fun hb12 => ?_)
       ·have h := iteT hb12 h
        refine kM 2 rfl ?_
        refine AOps_q 42 _ rfl rfl rfl (QOp_neq _ _ _ _ _ _ _ rfl rfl rfl) ?_
        refine kN 1 rfl ?_
        cases h
        exact Weak_keep 1 hm [0, 1, 2, 7, 8, 9, 10, 11, 43] [1] _ _ rfl rfl rfl
       have h := iteF hb12 h
       refine AOps_skip 40 rfl rfl rfl ?_
       refine AOps_skip 41 rfl rfl rfl ?_
       refine AOps_skip 42 rfl rfl rfl ?_
       refine kN 1 rfl ?_
       cases h
       exact Weak_keep 1 hm [0, 1, 2, 7, 8, 9, 10, 11, 43] [1] _ _ rfl rfl rfl
      refine kI h rfl (fun h _ => ?_) (fun h _ => ?_)
      ·refine ACode_skip ?_
       cases h
       exact ⟨_, rfl, Weak_keep 1 hm [0, 1, 2, 7, 8, 9, 10, 11] [1] _ _ rfl rfl rfl⟩
      refine ACode_exit ?_
      obtain ⟨rr, hz25, h2⟩ := bindO h
      obtain rfl := Option.some.inj h2
      obtain rfl := Option.some.inj (show some rr = some _ from hks15)
      have h := hz25
      cases h
      exact Weak_keep 1 hm [2, 7, 8] [] _ _ rfl rfl rfl
     refine kB (fun s22 => [(0, iV p0), (1, .d (.sl none (intsD p1))), (2, .vec 0 0), (7, iV r1), (8, iV s22.1), (9, iV r7), (10, .vec 1 0), (11, iV x10)]) (fun s22 => [.vec 0 (intsD s22.2), .vec 0 (intsD r8)]) h (fun s22 h => ?_) (fun s22 h => ?_)
     ·refine ACode_block ?_
      refine kR ?_
      refine kM 4 rfl ?_
      obtain ⟨hc16, h⟩ := guardO h
      refine AOps_q 50 _ rfl rfl rfl (QOp_indexAddr_vec _ _ _ _ _ _ _ _ _ rfl Tryz.underlying27 Tryz.sizeOf2 hc16.1 (by rw [intsD_length]; exact hc16.2) rfl rfl rfl) ?_
      refine AOps_q 51 _ rfl rfl rfl (QOp_load_eptr _ _ _ _ _ _ _ rfl Tryz.isAgg2 rfl rfl (intsD_get _ _ 0 (by omega))) ?_
      obtain ⟨r17, hr17, h⟩ := bindO h
      refine kC [] 52 (.vec 2 0) [.vec 0 (intsD x11), .vec 0 (intsD r8), .vec 0 (intsD r17)] rfl Tryz.call107 rfl rfl (spec_l09Move_ac k p1 (r8.getD x10.toNat 0) _ hr17) rfl ?_
      refine kM 1 rfl ?_
      obtain ⟨r18, hr18, h⟩ := bindO h
      refine AOps_callL [0] 54 _ _ _ _ _ _ _ _ _ _ rfl rfl rfl rfl rfl rfl rfl Tryz.call100 rfl (nodupB_sound _ rfl) rfl rfl rfl (hself p0 r17 x11 _ hr18) ?_
      rintro _ _ ⟨rfl, rfl⟩
      refine ⟨(allc (intsD_flat _) (fun _ h => nomatch h)), (allc (flat_s _) (fun _ h => nomatch h)), AOps_as 54 (v' := iV r18.1) (H' := [.vec 0 (intsD r18.2), .vec 0 (intsD r8), .vec 0 (intsD r17)]) rfl rfl ?_⟩
      refine kN 1 rfl ?_
      refine kL (fun s20 => [(0, iV p0), (1, .d (.sl none (intsD p1))), (2, .vec 0 0), (7, iV r1), (8, iV x9), (9, iV r7), (10, .vec 1 0), (11, iV x10), (12, iV r18.1), (61, bV s20)]) (fun s20 => [.vec 0 (intsD r18.2), .vec 0 (intsD r8)]) h (fun s20 h => ?_) (fun s20 h => ?_)
      ·refine (ACode_region ?_)
       refine kM 2 rfl ?_
       refine AOps_q 57 _ rfl rfl rfl (QOp_eql _ _ _ _ _ _ _ rfl rfl rfl) ?_
       refine kM 1 rfl ?_
       refine AOps_case 58 _ rfl (fun hb19 => ?_) (fun hb19 => ?_)
       ·have h := iteT hb19 h
        refine AOps_skip 59 rfl rfl rfl ?_
        refine AOps_skip 60 rfl rfl rfl ?_
        refine kN 1 rfl ?_
        cases h
        exact Weak_keep 1 hm [0, 1, 2, 7, 8, 9, 10, 11, 12, 61] [1] _ _ rfl rfl rfl
       have h := iteF hb19 h
       refine kM 1 rfl ?_
       refine AOps_q 60 _ rfl rfl rfl (QOp_eql _ _ _ _ _ _ _ rfl rfl rfl) ?_
       refine kN 1 rfl ?_
       cases h
       exact Weak_keep 1 hm [0, 1, 2, 7, 8, 9, 10, 11, 12, 61] [1] _ _ rfl rfl rfl
      refine kI h rfl (fun h _ => ?_) (fun h _ => ?_)
      ·refine (ACode_region ?_)
       refine kN 2 rfl ?_
       cases h
       exact Weak_keep 1 hm [0, 1, 2, 7, 8, 9, 10, 11] [1] _ _ rfl rfl rfl
      refine ACode_skip ?_
      cases h
      exact Weak_keep 1 hm [0, 1, 2, 7, 8, 9, 10, 11] [1] _ _ rfl rfl rfl
     refine (ACode_region ?_)
     refine kM 1 rfl ?_
     refine AOps_q 45 _ rfl rfl rfl (QOp_add _ _ _ _ _ _ _ rfl rfl rfl) ?_
     refine kN 1 rfl ?_
     exact ⟨k0, _, _, Nat.lt_succ_self _, Weak_keep 1 hm [0, 1, 2, 7, 8, 9, 10, 11] [1] _ _ rfl rfl rfl, _, _, _, rfl, rfl, h⟩
   refine ACode_skip ?_
   cases h
   exact Weak_keep 1 hm [2, 7, 8] [] _ _ rfl rfl rfl
  refine kR ?_
  refine kM 3 rfl ?_
  obtain ⟨hc24, h⟩ := guardO h
  refine AOps_q 66 _ rfl rfl rfl (QOp_indexAddr_vec _ _ _ _ _ _ _ _ _ rfl Tryz.underlying27 Tryz.sizeOf2 hc24.1 (by rw [intsD_length]; exact hc24.2) rfl rfl rfl) ?_
  refine AOps_store_eptr _ _ _ _ _ _ (intsD s23.2) _ rfl rfl rfl rfl rfl rfl rfl Tryz.sizeOf2 (by rw [intsD_length]; omega) ?_
  rw [intsD_set]
  refine AOps_nil ?_
  refine kR ?_
  refine kN 2 rfl ?_
  refine ACode_ret ?_
  cases h
  exact ⟨_, _, fun r a w h => ⟨r, h⟩, _, _, [], _, (.cons (ResV_tmp _ _ rfl) .nil), rfl, rfl, rfl, rfl, rfl⟩

-- loop.example/g01362/spec.OutcomeOf
def spec_OutcomeOf (k : Nat) (p0 : Int) (p1 : List Int) : Option (Int × Int) :=
 (spec_l09Code k p0 p1).bind fun r1 => (if !decide (r1 = 0) then some (0, r1) else (spec_l09Table k p0).bind fun r3 => (spec_l09Outcome k p0 p1 r3).bind fun r4 => some (r4.1, 0))
set_option maxRecDepth 100000 in
theorem spec_OutcomeOf_ac (k : Nat) (p0 : Int) (p1 : List Int) (r : Int × Int) (h : spec_OutcomeOf k p0 p1 = some r) : AC Tryz.prog 44 [iV p0, .d (.sl none (intsD p1))] [] (fun res H' => res = [iV r.1, iV r.2] ∧ H' = []) := by
 refine AC_of_body true Tryz.func44 rfl Tryz.ntmps44 (rvs := [.tmp 4, .tmp 5]) rfl rfl (fun G hG => ?_)
 have hm : G.H.length = 0 := by rw [hG]; rfl
 have hz : zeroG G.H = true := by rw [hG]; rfl
 unfold spec_OutcomeOf at h
 refine kR ?_
 refine kN 2 rfl ?_
 refine ACode_seq ?_
 refine kR ?_
 refine kM 2 rfl ?_
 obtain ⟨r1, hr1, h⟩ := bindO h
 refine kC [] 9 (iV r1) [] rfl Tryz.call99 rfl rfl (spec_l09Code_ac k p0 p1 _ hr1) rfl ?_
 refine kN 1 rfl ?_
 refine kR ?_
 refine kM 1 rfl ?_
 refine AOps_q 11 _ rfl rfl rfl (QOp_neq _ _ _ _ _ _ _ rfl rfl rfl) ?_
 refine AOps_nil ?_
 refine kI h rfl (fun h _ => ?_) (fun h _ => ?_)
 ·refine kR ?_
  refine kN 3 rfl ?_
  refine ACode_ret ?_
  cases h
  exact ⟨_, _, fun r a w h => ⟨r, h⟩, _, _, [], _, (.cons (ResV_tmp _ _ rfl) (.cons (ResV_tmp _ _ rfl) .nil)), rfl, rfl, rfl, rfl, rfl⟩
 refine ACode_skip ?_
 refine kR ?_
 refine kM 3 rfl ?_
 obtain ⟨r3, hr3, h⟩ := bindO h
 refine kC [] 16 (.vec 0 0) [.vec 0 (intsD r3)] rfl Tryz.call101 rfl rfl (spec_l09Table_ac k p0 _ hr3) rfl ?_
 obtain ⟨r4, hr4, h⟩ := bindO h
 refine kC [0] 17 (iV r4.1) [.vec 0 (intsD r4.2)] rfl Tryz.call100 rfl rfl (spec_l09Outcome_ac k p0 p1 r3 _ hr4) rfl ?_
 refine kN 2 rfl ?_
 refine ACode_ret ?_
 cases h
 exact ⟨_, _, fun r a w h => ⟨r, h⟩, _, _, [], _, (.cons (ResV_tmp _ _ rfl) (.cons (ResV_tmp _ _ rfl) .nil)), rfl, rfl, rfl, rfl, rfl⟩

-- (loop.example/g01362/impl.player).best$1
def impl_player_best_c1 (k : Nat) (p0 : Int) (p1 : List (MK × Int)) (p2 : Pos) (p3 : Int) : Option (Bool × List (MK × Int)) :=
 (impl_position_moved k p2 p0).bind fun r1 => (impl_player_outcome k p1 r1).bind fun r2 => some (decide (r2.1 = p3), r2.2)
set_option maxRecDepth 100000 in
theorem impl_player_best_c1_ac {vp1 : Value} (k : Nat) (p0 : Int) (p1 : List (MK × Int)) (p2 : Pos) (p3 : Int) (r : Bool × List (MK × Int)) (h : impl_player_best_c1 k p0 p1 p2 p3 = some r) : AC Tryz.prog 159 [iV p0, .d (.pv ([.s vp1]) 0), .d (.pv (posD p2) 0), .d (.pv ([iD p3]) 0)] [.mp vp1 (mapI Tryz.prog 9 2 p1)] (fun res H' => res = [bV r.1] ∧ H' = [.mp vp1 (mapI Tryz.prog 9 2 r.2)]) := by
 refine AC_of_body true Tryz.func159 rfl Tryz.ntmps159 (rvs := [.tmp 5]) rfl rfl (fun G hG => ?_)
 have hm : G.H.length = 1 := by rw [hG]; rfl
 have hz : zeroG G.H = true := by rw [hG]; rfl
 unfold impl_player_best_c1 at h
 refine kR ?_
 refine kN 1 rfl ?_
 obtain ⟨r1, hr1, h⟩ := bindO h
 obtain ⟨r2, hr2, h⟩ := bindO h
 refine ACode_seq (ACode_reg [(5, bV (decide (r2.1 = p3)))] [.mp vp1 (mapI Tryz.prog 9 2 r2.2)] ?_ ?_)
 ·refine ACode_anyU mixed ?_
  refine AU_cut 3 #[true, true, true, true, false, true, false, false] [(5, bV false), (6, .d (.s vp1)), (9, .d (.agg (posD r1))), (11, iV p3)] [.mp vp1 (mapI Tryz.prog 9 2 p1)] ?_ (fun hS0 => ?_)
  ·refine AU_one 4 (by kernel_rfl) rfl rfl ?_
   refine kC [0] 10 (iV r2.1) [.mp vp1 (mapI Tryz.prog 9 2 r2.2)] rfl Tryz.call98 rfl rfl (impl_player_outcome_ac k p1 r1 _ hr2) rfl ?_
   refine AOps_nil ?_
   refine AU_u 6 12 _ rfl (by kernel_rfl) rfl rfl rfl (UOp_eql _ _ _ _ _ _ _ rfl rfl rfl) ?_
   refine AU_u 7 5 _ rfl (by kernel_rfl) rfl rfl rfl (UOp_assign _ _ rfl rfl) ?_
   refine AU_done (by kernel_rfl) ?_
   exact ⟨rfl, Weak_keep 1 hm [5] [] _ _ rfl rfl rfl⟩
  refine AU_cut 4 #[true, true, true, true, false, false, false, false] [(3, .d (.pv ([iD p3]) 0)), (5, bV false), (6, .d (.s vp1)), (9, .d (.agg (posD r1)))] [.mp vp1 (mapI Tryz.prog 9 2 p1)] ?_ (fun hS1 => ?_)
  ·refine AU_all [4, 5] (by kernel_rfl) rfl (allc ?_ (allc ?_ (fun _ h => nomatch h)))
   ·refine US_of 4 rfl rfl ?_
    refine kC [0] 10 (iV r2.1) [.mp vp1 (mapI Tryz.prog 9 2 r2.2)] rfl Tryz.call98 rfl rfl (impl_player_outcome_ac k p1 r1 _ hr2) rfl ?_
    refine AOps_nil ?_
    refine AU_one 5 (by kernel_rfl) rfl rfl ?_
    refine AOps_q 11 _ rfl rfl rfl (QOp_load_pv _ _ _ _ _ rfl Tryz.isAgg2 rfl rfl) ?_
    refine AOps_nil ?_
    refine AU_u 6 12 _ rfl (by kernel_rfl) rfl rfl rfl (UOp_eql _ _ _ _ _ _ _ rfl rfl rfl) ?_
    refine AU_u 7 5 _ rfl (by kernel_rfl) rfl rfl rfl (UOp_assign _ _ rfl rfl) ?_
    refine AU_done (by kernel_rfl) ?_
    exact ⟨rfl, Weak_keep 1 hm [5] [] _ _ rfl rfl rfl⟩
   refine US_of 5 rfl rfl ?_
   refine AOps_q 11 _ rfl rfl rfl (QOp_load_pv _ _ _ _ _ rfl Tryz.isAgg2 rfl rfl) ?_
   refine AOps_nil ?_
   exact AU_to (by kernel_rfl) hS0 (Weak_keep 1 hm [5, 6, 9, 11] [] _ _ rfl rfl rfl)
  refine AU_cut 4 #[true, true, true, false, false, true, false, false] [(5, bV false), (6, .d (.s vp1)), (7, .d (.agg (posD p2))), (8, iV p0), (11, iV p3)] [.mp vp1 (mapI Tryz.prog 9 2 p1)] ?_ (fun hS2 => ?_)
  ·refine AU_one 3 (by kernel_rfl) rfl rfl ?_
   refine kC [] 9 (.d (.agg (posD r1))) [.mp vp1 (mapI Tryz.prog 9 2 p1)] rfl Tryz.call104 rfl rfl (impl_position_moved_ac k p2 p0 _ hr1) rfl ?_
   refine AOps_nil ?_
   exact AU_to (by kernel_rfl) hS0 (Weak_keep 1 hm [5, 6, 9, 11] [] _ _ rfl rfl rfl)
  refine AU_cut 4 #[false, true, true, true, false, true, false, false] [(1, .d (.pv ([.s vp1]) 0)), (5, bV false), (9, .d (.agg (posD r1))), (11, iV p3)] [.mp vp1 (mapI Tryz.prog 9 2 p1)] ?_ (fun hS3 => ?_)
  ·refine AU_one 0 (by kernel_rfl) rfl rfl ?_
   refine AOps_q 6 _ rfl rfl rfl (QOp_load_pv _ _ _ _ _ rfl Tryz.isAgg98 rfl rfl) ?_
   refine AOps_nil ?_
   exact AU_to (by kernel_rfl) hS0 (Weak_keep 1 hm [5, 6, 9, 11] [] _ _ rfl rfl rfl)
  refine AU_cut 5 #[true, true, true, false, false, false, false, false] [(3, .d (.pv ([iD p3]) 0)), (5, bV false), (6, .d (.s vp1)), (7, .d (.agg (posD p2))), (8, iV p0)] [.mp vp1 (mapI Tryz.prog 9 2 p1)] ?_ (fun hS4 => ?_)
  ·refine AU_all [3, 5] (by kernel_rfl) rfl (allc ?_ (allc ?_ (fun _ h => nomatch h)))
   ·refine US_of 3 rfl rfl ?_
    refine kC [] 9 (.d (.agg (posD r1))) [.mp vp1 (mapI Tryz.prog 9 2 p1)] rfl Tryz.call104 rfl rfl (impl_position_moved_ac k p2 p0 _ hr1) rfl ?_
    refine AOps_nil ?_
    exact AU_to (by kernel_rfl) hS1 (Weak_keep 1 hm [3, 5, 6, 9] [] _ _ rfl rfl rfl)
   refine US_of 5 rfl rfl ?_
   refine AOps_q 11 _ rfl rfl rfl (QOp_load_pv _ _ _ _ _ rfl Tryz.isAgg2 rfl rfl) ?_
   refine AOps_nil ?_
   exact AU_to (by kernel_rfl) hS2 (Weak_keep 1 hm [5, 6, 7, 8, 11] [] _ _ rfl rfl rfl)
  refine AU_cut 5 #[true, false, true, false, false, true, false, false] [(2, .d (.pv (posD p2) 0)), (5, bV false), (6, .d (.s vp1)), (8, iV p0), (11, iV p3)] [.mp vp1 (mapI Tryz.prog 9 2 p1)] ?_ (fun hS5 => ?_)
  ·refine AU_one 1 (by kernel_rfl) rfl rfl ?_
   refine AOps_q 7 _ rfl rfl rfl (QOp_loadN_pv _ _ _ _ _ _ rfl Tryz.isAgg96 Tryz.sizeOf96 rfl (posD_all _) (posD_length _)) ?_
   refine AOps_nil ?_
   exact AU_to (by kernel_rfl) hS2 (Weak_keep 1 hm [5, 6, 7, 8, 11] [] _ _ rfl rfl rfl)
  refine AU_cut 5 #[false, true, true, false, false, true, false, false] [(1, .d (.pv ([.s vp1]) 0)), (5, bV false), (7, .d (.agg (posD p2))), (8, iV p0), (11, iV p3)] [.mp vp1 (mapI Tryz.prog 9 2 p1)] ?_ (fun hS6 => ?_)
  ·refine AU_all [0, 3] (by kernel_rfl) rfl (allc ?_ (allc ?_ (fun _ h => nomatch h)))
   ·refine US_of 0 rfl rfl ?_
    refine AOps_q 6 _ rfl rfl rfl (QOp_load_pv _ _ _ _ _ rfl Tryz.isAgg98 rfl rfl) ?_
    refine AOps_nil ?_
    exact AU_to (by kernel_rfl) hS2 (Weak_keep 1 hm [5, 6, 7, 8, 11] [] _ _ rfl rfl rfl)
   refine US_of 3 rfl rfl ?_
   refine kC [] 9 (.d (.agg (posD r1))) [.mp vp1 (mapI Tryz.prog 9 2 p1)] rfl Tryz.call104 rfl rfl (impl_position_moved_ac k p2 p0 _ hr1) rfl ?_
   refine AOps_nil ?_
   exact AU_to (by kernel_rfl) hS3 (Weak_keep 1 hm [1, 5, 9, 11] [] _ _ rfl rfl rfl)
  refine AU_u 2 8 _ rfl (by kernel_rfl) rfl rfl rfl (UOp_move _ _ rfl rfl) ?_
  refine AU_all [0, 1, 5] (by kernel_rfl) rfl (allc ?_ (allc ?_ (allc ?_ (fun _ h => nomatch h))))
  ·refine US_of 0 rfl rfl ?_
   refine AOps_q 6 _ rfl rfl rfl (QOp_load_pv _ _ _ _ _ rfl Tryz.isAgg98 rfl rfl) ?_
   refine AOps_nil ?_
   refine AU_all [1, 5] (by kernel_rfl) rfl (allc ?_ (allc ?_ (fun _ h => nomatch h)))
   ·refine US_of 1 rfl rfl ?_
    refine AOps_q 7 _ rfl rfl rfl (QOp_loadN_pv _ _ _ _ _ _ rfl Tryz.isAgg96 Tryz.sizeOf96 rfl (posD_all _) (posD_length _)) ?_
    refine AOps_nil ?_
    exact AU_to (by kernel_rfl) hS4 (Weak_keep 1 hm [3, 5, 6, 7, 8] [] _ _ rfl rfl rfl)
   refine US_of 5 rfl rfl ?_
   refine AOps_q 11 _ rfl rfl rfl (QOp_load_pv _ _ _ _ _ rfl Tryz.isAgg2 rfl rfl) ?_
   refine AOps_nil ?_
   exact AU_to (by kernel_rfl) hS5 (Weak_keep 1 hm [2, 5, 6, 8, 11] [] _ _ rfl rfl rfl)
  ·refine US_of 1 rfl rfl ?_
   refine AOps_q 7 _ rfl rfl rfl (QOp_loadN_pv _ _ _ _ _ _ rfl Tryz.isAgg96 Tryz.sizeOf96 rfl (posD_all _) (posD_length _)) ?_
   refine AOps_nil ?_
   refine AU_all [0, 3, 5] (by kernel_rfl) rfl (allc ?_ (allc ?_ (allc ?_ (fun _ h => nomatch h))))
   ·refine US_of 0 rfl rfl ?_
    refine AOps_q 6 _ rfl rfl rfl (QOp_load_pv _ _ _ _ _ rfl Tryz.isAgg98 rfl rfl) ?_
    refine AOps_nil ?_
    exact AU_to (by kernel_rfl) hS4 (Weak_keep 1 hm [3, 5, 6, 7, 8] [] _ _ rfl rfl rfl)
   ·refine US_of 3 rfl rfl ?_
    refine kC [] 9 (.d (.agg (posD r1))) [.mp vp1 (mapI Tryz.prog 9 2 p1)] rfl Tryz.call104 rfl rfl (impl_position_moved_ac k p2 p0 _ hr1) rfl ?_
    refine AOps_nil ?_
    refine AU_all [0, 5] (by kernel_rfl) rfl (allc ?_ (allc ?_ (fun _ h => nomatch h)))
    ·refine US_of 0 rfl rfl ?_
     refine AOps_q 6 _ rfl rfl rfl (QOp_load_pv _ _ _ _ _ rfl Tryz.isAgg98 rfl rfl) ?_
     refine AOps_nil ?_
     exact AU_to (by kernel_rfl) hS1 (Weak_keep 1 hm [3, 5, 6, 9] [] _ _ rfl rfl rfl)
    refine US_of 5 rfl rfl ?_
    refine AOps_q 11 _ rfl rfl rfl (QOp_load_pv _ _ _ _ _ rfl Tryz.isAgg2 rfl rfl) ?_
    refine AOps_nil ?_
    exact AU_to (by kernel_rfl) hS3 (Weak_keep 1 hm [1, 5, 9, 11] [] _ _ rfl rfl rfl)
   refine US_of 5 rfl rfl ?_
   refine AOps_q 11 _ rfl rfl rfl (QOp_load_pv _ _ _ _ _ rfl Tryz.isAgg2 rfl rfl) ?_
   refine AOps_nil ?_
   exact AU_to (by kernel_rfl) hS6 (Weak_keep 1 hm [1, 5, 7, 8, 11] [] _ _ rfl rfl rfl)
  refine US_of 5 rfl rfl ?_
  refine AOps_q 11 _ rfl rfl rfl (QOp_load_pv _ _ _ _ _ rfl Tryz.isAgg2 rfl rfl) ?_
  refine AOps_nil ?_
  refine AU_all [0, 1] (by kernel_rfl) rfl (allc ?_ (allc ?_ (fun _ h => nomatch h)))
  ·refine US_of 0 rfl rfl ?_
   refine AOps_q 6 _ rfl rfl rfl (QOp_load_pv _ _ _ _ _ rfl Tryz.isAgg98 rfl rfl) ?_
   refine AOps_nil ?_
   exact AU_to (by kernel_rfl) hS5 (Weak_keep 1 hm [2, 5, 6, 8, 11] [] _ _ rfl rfl rfl)
  refine US_of 1 rfl rfl ?_
  refine AOps_q 7 _ rfl rfl rfl (QOp_loadN_pv _ _ _ _ _ _ rfl Tryz.isAgg96 Tryz.sizeOf96 rfl (posD_all _) (posD_length _)) ?_
  refine AOps_nil ?_
  exact AU_to (by kernel_rfl) hS6 (Weak_keep 1 hm [1, 5, 7, 8, 11] [] _ _ rfl rfl rfl)
 refine ACode_ret ?_
 cases h
 exact ⟨_, _, fun r a w h => ⟨r, h⟩, _, _, [], _, (.cons (ResV_tmp _ _ rfl) .nil), rfl, rfl, rfl, rfl, rfl⟩

-- (loop.example/g01362/impl.position).movesThat
def impl_position_movesThat_on_player_best_c1_l0 (k : Nat) (p0 : Pos) (p1_1 : Pos) (p1_2 : Int) : Nat → Int → (List (MK × Int)) → (List Int) → Option (List (MK × Int) × List Int)
 | 0, _, _, _ => none
 | k0 + 1, x3, x4, x5 => (if decide (x3 < (p0.l.length : Int)) then ((if 0 ≤ x3 ∧ x3 < (p0.l.length : Int) then ((if decide ((p0.l.getD x3.toNat 0) < 0) then (impl_player_best_c1 k x3 x4 p1_1 p1_2).bind fun r9 => some (r9.1, r9.2) else some (false, x4)) : Option (Bool × List (MK × Int))).bind fun s10 => (if s10.1 then (if x5.length + ([x3]).length ≤ 1099511627776 then some (s10.2, (x5 ++ ([x3]))) else none) else some (s10.2, x5)) else none) : Option (List (MK × Int) × List Int)).bind fun s13 => impl_position_movesThat_on_player_best_c1_l0 k p0 p1_1 p1_2 k0 (w64 (x3 + 1)) s13.1 s13.2 else some (x4, x5))
def impl_position_movesThat_on_player_best_c1 (k : Nat) (p0 : Pos) (p1_0 : List (MK × Int)) (p1_1 : Pos) (p1_2 : Int) : Option (List Int × List (MK × Int)) :=
 (impl_position_result k p0).bind fun r1 => (if decide (0 ≤ r1) then some (([] : List Int), p1_0) else (impl_position_movesThat_on_player_best_c1_l0 k p0 p1_1 p1_2 k 0 p1_0 ([] : List Int) : Option (List (MK × Int) × List Int)).bind fun s14 => some (s14.2, s14.1))
set_option maxRecDepth 100000 in
theorem impl_position_movesThat_on_player_best_c1_ac {vp1_0 : Value} (k : Nat) (p0 : Pos) (p1_0 : List (MK × Int)) (p1_1 : Pos) (p1_2 : Int) (r : List Int × List (MK × Int)) (h : impl_position_movesThat_on_player_best_c1 k p0 p1_0 p1_1 p1_2 = some r) : AC Tryz.prog 158 [.d (.agg (posD p0)), .d (.clo 159 [.pv ([.s vp1_0]) 0, .pv (posD p1_1) 0, .pv ([iD p1_2]) 0])] [.mp vp1_0 (mapI Tryz.prog 9 2 p1_0)] (fun res H' => res = [.vec 1 0] ∧ H' = [.mp vp1_0 (mapI Tryz.prog 9 2 r.2), .vec 0 (intsD r.1)]) := by
 refine AC_of_body true Tryz.func158 rfl Tryz.ntmps158 (rvs := [.tmp 4]) rfl rfl (fun G hG => ?_)
 have hm : G.H.length = 1 := by rw [hG]; rfl
 have hz : zeroG G.H = true := by rw [hG]; rfl
 unfold impl_position_movesThat_on_player_best_c1 at h
 refine kR ?_
 refine AOps_boxI 2 _ _ (.agg (posD p0)) (posD p0) rfl (posD_one _) rfl rfl rfl rfl rfl ?_
 refine kN 1 rfl ?_
 refine kR ?_
 refine AOps_buildSlice 8 _ _ _ [] (intsD ([] : List Int)) _ rfl rfl rfl rfl rfl (by decide) Tryz.underlying27 Tryz.sizeOf2 (zero_of Tryz.typeInfo2 rfl) rfl rfl (intsD_one _) ?_
 refine kN 1 rfl ?_
 refine ACode_seq ?_
 refine kR ?_
 refine AOps_q 9 _ rfl rfl rfl (QOp_loadN_pv _ _ _ _ _ _ rfl Tryz.isAgg96 Tryz.sizeOf96 rfl (posD_all _) (posD_length _)) ?_
 obtain ⟨r1, hr1, h⟩ := bindO h
 refine kC [] 10 (iV r1) [.mp vp1_0 (mapI Tryz.prog 9 2 p1_0), .vec 0 (intsD ([] : List Int))] rfl Tryz.call102 rfl rfl (impl_position_result_ac k p0 _ hr1) rfl ?_
 refine AOps_q 11 _ rfl rfl rfl (QOp_geq _ _ _ _ _ _ _ rfl rfl rfl) ?_
 refine AOps_nil ?_
 refine kI h rfl (fun h _ => ?_) (fun h _ => ?_)
 ·refine kR ?_
  refine kN 2 rfl ?_
  refine ACode_ret ?_
  cases h
  exact ⟨_, _, Weak_reset 1 hm hz [4] _ _ rfl rfl, _, _, [1], _, (.cons (ResV_tmp _ _ rfl) .nil), rfl, rfl, rfl, rfl, rfl⟩
 refine ACode_skip ?_
 refine kB (fun s14 => [(5, .vec 1 0)]) (fun s14 => [.mp vp1_0 (mapI Tryz.prog 9 2 s14.1), .vec 0 (intsD s14.2)]) h (fun s14 h => ?_) (fun s14 h => ?_)
 ·refine kR ?_
  refine AOps_q 13 _ rfl rfl rfl (QOp_fieldAddr_pv _ _ _ _ _ 1 _ _ rfl Tryz.underlying96 rfl _ Tryz.sizeOf27 rfl rfl) ?_
  refine AOps_q 14 _ rfl rfl rfl (QOp_load_pv _ _ _ _ _ rfl Tryz.isAgg27 rfl rfl) ?_
  refine AOps_q 15 _ rfl rfl rfl (QOp_len_sl _ _ _ _ _ _ _ (intsD_length _) rfl rfl rfl rfl Tryz.underlying27 rfl) ?_
  refine kN 1 rfl ?_
  refine ACode_block ?_
  refine ACode_loopW (fun k0 E H => ∃ (x3 : Int) (x4 : List (MK × Int)) (x5 : List Int), E = [(1, .d (.clo 159 [.pv ([.s vp1_0]) 0, .pv (posD p1_1) 0, .pv ([iD p1_2]) 0])), (5, .vec 1 0), (14, .d (.sl none (intsD p0.l))), (15, iV (p0.l.length : Int)), (16, iV x3)] ∧ H = [.mp vp1_0 (mapI Tryz.prog 9 2 x4), .vec 0 (intsD x5)] ∧ impl_position_movesThat_on_player_best_c1_l0 k p0 p1_1 p1_2 k0 x3 x4 x5 = some s14) k _ _ (Weak_keep 1 hm [1, 5, 14, 15, 16] [1] _ _ rfl rfl rfl) ⟨_, _, _, rfl, rfl, h⟩ ?_
  clear h
  rintro k0 E H ⟨x3, x4, x5, rfl, rfl, h⟩
  cases k0 with
  | zero => cases (show (none : Option (List (MK × Int) × List Int)) = some _ from h)
  | succ k0 =>
   rw [impl_position_movesThat_on_player_best_c1_l0] at h
   refine kR ?_
   refine AOps_q 17 _ rfl rfl rfl (QOp_lss _ _ _ _ _ _ _ rfl rfl rfl) ?_
   refine AOps_nil ?_
   refine ACode_seq ?_
   refine kI h rfl (fun h _ => ?_) (fun h _ => ?_)
   ·refine ACode_skip ?_
    refine kB (fun s13 => [(1, .d (.clo 159 [.pv ([.s vp1_0]) 0, .pv (posD p1_1) 0, .pv ([iD p1_2]) 0])), (5, .vec 1 0), (14, .d (.sl none (intsD p0.l))), (15, iV (p0.l.length : Int)), (16, iV x3)]) (fun s13 => [.mp vp1_0 (mapI Tryz.prog 9 2 s13.1), .vec 0 (intsD s13.2)]) h (fun s13 h => ?_) (fun s13 h => ?_)
    ·refine ACode_block ?_
     refine kR ?_
     refine kM 1 rfl ?_
     obtain ⟨hc7, h⟩ := guardO h
     refine AOps_q 19 _ rfl rfl rfl (QOp_indexAddr_sl _ _ _ _ _ _ _ _ rfl Tryz.underlying27 Tryz.sizeOf2 hc7.1 (by rw [intsD_length]; exact hc7.2) rfl rfl) ?_
     refine AOps_q 20 _ rfl rfl rfl (QOp_load_pv _ _ _ _ _ rfl Tryz.isAgg2 rfl (intsD_get _ _ 0 (by omega))) ?_
     refine kN 2 rfl ?_
     refine kB (fun s10 => [(1, .d (.clo 159 [.pv ([.s vp1_0]) 0, .pv (posD p1_1) 0, .pv ([iD p1_2]) 0])), (5, .vec 1 0), (6, iV x3), (14, .d (.sl none (intsD p0.l))), (15, iV (p0.l.length : Int)), (16, iV x3), (27, bV s10.1)]) (fun s10 => [.mp vp1_0 (mapI Tryz.prog 9 2 s10.2), .vec 0 (intsD x5)]) h (fun s10 h => ?_) (fun s10 h => ?_)
     ·refine (ACode_region ?_)
      refine kM 1 rfl ?_
      refine AOps_q 22 _ rfl rfl rfl (QOp_lss _ _ _ _ _ _ _ rfl rfl rfl) ?_
      refine kM 1 rfl ?_
      refine AOps_case 23 _ rfl (fun hb8 => ?_) (fun hb8 => ?_)
      ·have h := iteT hb8 h
       refine kM 2 rfl ?_
       obtain ⟨r9, hr9, h⟩ := bindO h
       refine kC [0] 26 (bV r9.1) [.mp vp1_0 (mapI Tryz.prog 9 2 r9.2), .vec 0 (intsD x5)] rfl Tryz.call159 rfl rfl (impl_player_best_c1_ac k x3 x4 p1_1 p1_2 _ hr9) rfl ?_
       refine kN 1 rfl ?_
       cases h
       exact Weak_keep 1 hm [1, 5, 6, 14, 15, 16, 27] [1] _ _ rfl rfl rfl
      have h := iteF hb8 h
      refine AOps_skip 24 rfl rfl rfl ?_
      refine AOps_skip 25 rfl rfl rfl ?_
      refine AOps_skip 26 rfl rfl rfl ?_
      refine kN 1 rfl ?_
      cases h
      exact Weak_keep 1 hm [1, 5, 6, 14, 15, 16, 27] [1] _ _ rfl rfl rfl
     refine kI h rfl (fun h _ => ?_) (fun h _ => ?_)
     ·refine (ACode_region ?_)
      refine kM 2 rfl ?_
      refine AOps_buildSlice 30 _ _ _ [_] (intsD ([x3])) _ rfl rfl rfl rfl rfl (by decide) Tryz.underlying27 Tryz.sizeOf2 (zero_of Tryz.typeInfo2 rfl) rfl rfl (intsD_one _) ?_
      obtain ⟨hc12, h⟩ := guardO h
      refine AOps_append 31 _ _ _ _ _ _ _ _ _ _ _ _ rfl rfl rfl rfl rfl rfl rfl Tryz.underlying27 Tryz.type2 rfl rfl rfl (by decide) rfl rfl rfl rfl (intsD_one _) (by rw [intsD_length, intsD_length]; exact hc12) ?_
      rw [intsD_app]
      refine kN 1 rfl ?_
      cases h
      exact Weak_trans (Weak_keep 1 hm [1, 5, 14, 15, 16] [1] _ _ rfl rfl rfl) (Weak_reset 1 hm hz [1, 5, 14, 15, 16] _ _ rfl rfl)
     refine ACode_skip ?_
     cases h
     exact Weak_keep 1 hm [1, 5, 14, 15, 16] [1] _ _ rfl rfl rfl
    refine (ACode_region ?_)
    refine AOps_q 32 _ rfl rfl rfl (QOp_add _ _ _ _ _ _ _ rfl rfl rfl) ?_
    refine kN 1 rfl ?_
    exact ⟨k0, _, _, Nat.lt_succ_self _, Weak_keep 1 hm [1, 5, 14, 15, 16] [1] _ _ rfl rfl rfl, _, _, _, rfl, rfl, h⟩
   refine ACode_exit ?_
   cases h
   exact Weak_keep 1 hm [5] [1] _ _ rfl rfl rfl
 refine kR ?_
 refine kN 2 rfl ?_
 refine ACode_ret ?_
 cases h
 exact ⟨_, _, Weak_reset 1 hm hz [4] _ _ rfl rfl, _, _, [1], _, (.cons (ResV_tmp _ _ rfl) .nil), rfl, rfl, rfl, rfl, rfl⟩

-- (loop.example/g01362/impl.player).best
def impl_player_best (k : Nat) (p0 : List (MK × Int)) (p1 : Pos) : Option (List Int × List (MK × Int)) :=
 (impl_player_outcome k p0 p1).bind fun r1 => (impl_position_movesThat_on_player_best_c1 k p1 r1.2 p1 r1.1).bind fun r2 => some (r2.1, r2.2)
set_option maxRecDepth 100000 in
theorem impl_player_best_ac {vp0 : Value} (k : Nat) (p0 : List (MK × Int)) (p1 : Pos) (r : List Int × List (MK × Int)) (h : impl_player_best k p0 p1 = some r) : AC Tryz.prog 103 [.d (.s vp0), .d (.agg (posD p1))] [.mp vp0 (mapI Tryz.prog 9 2 p0)] (fun res H' => res = [.vec 1 0] ∧ H' = [.mp vp0 (mapI Tryz.prog 9 2 r.2), .vec 0 (intsD r.1)]) := by
 refine AC_of_body true Tryz.func103 rfl Tryz.ntmps103 (rvs := [.tmp 4]) rfl rfl (fun G hG => ?_)
 have hm : G.H.length = 1 := by rw [hG]; rfl
 have hz : zeroG G.H = true := by rw [hG]; rfl
 unfold impl_player_best at h
 refine kR ?_
 refine AOps_mpOne 0 _ _ rfl (fun honevp0 => ?_)
 refine AOps_boxI 2 _ _ (.s vp0) _ rfl (fun c hc => by cases hc with | head => exact honevp0 | tail _ h => cases h) rfl rfl rfl rfl rfl ?_
 refine AOps_boxI 3 _ _ (.agg (posD p1)) (posD p1) rfl (posD_one _) rfl rfl rfl rfl rfl ?_
 refine kN 1 rfl ?_
 refine kR ?_
 refine AOps_q 6 _ rfl rfl rfl (QOp_load_pv _ _ _ _ _ rfl Tryz.isAgg98 rfl rfl) ?_
 refine AOps_q 7 _ rfl rfl rfl (QOp_loadN_pv _ _ _ _ _ _ rfl Tryz.isAgg96 Tryz.sizeOf96 rfl (posD_all _) (posD_length _)) ?_
 obtain ⟨r1, hr1, h⟩ := bindO h
 refine kC [0] 8 (iV r1.1) [.mp vp0 (mapI Tryz.prog 9 2 r1.2)] rfl Tryz.call98 rfl rfl (impl_player_outcome_ac k p0 p1 _ hr1) rfl ?_
 refine AOps_alloc 5 _ _ ([iD 0]) (zero_of Tryz.typeInfo2 rfl) (by rfl) rfl rfl rfl rfl ?_
 refine AOps_store1 _ _ _ _ _ _ _ _ rfl rfl rfl rfl rfl rfl rfl Tryz.sizeOf2 (Nat.le_of_ble_eq_true rfl) rfl ?_
 refine AOps_nil ?_
 refine kR ?_
 refine AOps_q 9 _ rfl rfl rfl (QOp_loadN_pv _ _ _ _ _ _ rfl Tryz.isAgg96 Tryz.sizeOf96 rfl (posD_all _) (posD_length _)) ?_
 refine AOps_q 10 _ rfl rfl rfl (QOp_makeFunc _ _ _ rfl rfl) ?_
 obtain ⟨r2, hr2, h⟩ := bindO h
 refine AOps_callL [0] 11 _ _ _ _ _ _ _ _ _ _ rfl rfl rfl rfl rfl rfl rfl Tryz.call158 rfl (nodupB_sound _ rfl) rfl rfl rfl (impl_position_movesThat_on_player_best_c1_ac k p1 r1.2 p1 r1.1 _ hr2) ?_
 rintro _ _ ⟨rfl, rfl⟩
 refine ⟨(allc (trivial) (allc (intsD_flat _) (fun _ h => nomatch h))), (allc (trivial) (fun _ h => nomatch h)), AOps_as 11 (v' := .vec 2 0) (H' := [.mp vp0 (mapI Tryz.prog 9 2 r2.2), .box [iD r1.1], .vec 0 (intsD r2.1)]) rfl rfl ?_⟩
 refine kN 1 rfl ?_
 refine ACode_ret ?_
 cases h
 exact ⟨_, _, Weak_reset 1 hm hz [4] _ _ rfl rfl, _, _, [2], _, (.cons (ResV_tmp _ _ rfl) .nil), rfl, rfl, rfl, rfl, rfl⟩

-- loop.example/g01362/impl.PlayOut
def impl_PlayOut_l0 (k : Nat) : Nat → Pos → (List (MK × Int)) → (List Int) → Option (List Int)
 | 0, _, _, _ => none
 | k0 + 1, x4, x5, x6 => (impl_position_result k x4).bind fun r7 => (if decide (r7 < 0) then (impl_player_best k x5 x4).bind fun r9 => (if 0 ≤ (0 : Int) ∧ (0 : Int) < (r9.1.length : Int) then (if x6.length + ([(r9.1.getD (0 : Int).toNat 0)]).length ≤ 1099511627776 then (impl_position_moved k x4 (r9.1.getD (0 : Int).toNat 0)).bind fun r12 => impl_PlayOut_l0 k k0 r12 r9.2 (x6 ++ ([(r9.1.getD (0 : Int).toNat 0)])) else none) else none) else some x6)
def impl_PlayOut (k : Nat) (p0 : Int) (p1 : List Int) : Option (Option (List Int) × Int) :=
 (impl_position_code k (⟨p0, p1⟩ : Pos) (some (impl_always))).bind fun r1 => (if !decide (r1 = 0) then some (none, r1) else (impl_PlayOut_l0 k k (⟨p0, p1⟩ : Pos) ([] : List (MK × Int)) ([] : List Int) : Option (List Int)).bind fun s13 => some (some s13, 0))
set_option maxRecDepth 100000 in
theorem impl_PlayOut_ac (k : Nat) (p0 : Int) (p1 : List Int) (r : Option (List Int) × Int) (h : impl_PlayOut k p0 p1 = some r) : AC Tryz.prog 45 [iV p0, .d (.sl none (intsD p1))] [] (fun res H' => res = [ownA 0 (r.1.map intsD), iV r.2] ∧ H' = [] ++ ownH (r.1.map intsD)) := by
 refine AC_of_body false Tryz.func45 rfl Tryz.ntmps45 (rvs := [.tmp 4, .tmp 5]) rfl rfl (fun G hG => ?_)
 have hm : G.H.length = 0 := by rw [hG]; rfl
 have hz : zeroG G.H = true := by rw [hG]; rfl
 unfold impl_PlayOut at h
 refine kR ?_
 refine kN 2 rfl ?_
 refine kR ?_
 refine kM 2 rfl ?_
 refine AOps_q 13 _ rfl rfl rfl (QOp_build _ _ [_, _] [0, 1] [iD p0, .sl none (intsD p1)] _ [iD 0, .sl (some true) []] (posD (⟨p0, p1⟩ : Pos)) [(0, 1), (1, 1)] rfl rfl Tryz.underlying96 (zero_of Tryz.typeInfo96 rfl) (fun w => by simp [Tryz.sizeOf2, Tryz.sizeOf27]) rfl (by rfl) (by rfl) (allc (ok1 rfl) (allc (ok1 rfl) (fun _ h => nomatch h)))) ?_
 refine AOps_alloc 6 _ _ ([iD 0, .sl (some true) []]) (zero_of Tryz.typeInfo96 rfl) (by rfl) rfl rfl rfl rfl ?_
 refine AOps_store _ _ _ _ _ _ (posD _) _ _ rfl rfl rfl rfl rfl rfl rfl (posD_one _) (by rw [posD_length]; exact Tryz.sizeOf96) (by show (2 : Nat) ≤ 2; decide) rfl ?_
 refine AOps_nil ?_
 refine ACode_seq ?_
 refine kR ?_
 refine AOps_q 14 _ rfl rfl rfl (QOp_loadN_ptr _ _ _ _ _ _ _ rfl Tryz.isAgg96 Tryz.sizeOf96 rfl rfl (posD_all _) (posD_length _)) ?_
 obtain ⟨r1, hr1, h⟩ := bindO h
 refine kC [] 15 (iV r1) [.box (posD (⟨p0, p1⟩ : Pos))] rfl Tryz.call97 rfl rfl (impl_position_code_ac k (⟨p0, p1⟩ : Pos) (some (impl_always)) 81 ([]) Tryz.call81 (fun r h => by cases h; exact impl_always_ac) _ hr1) rfl ?_
 refine kN 1 rfl ?_
 refine kR ?_
 refine kM 1 rfl ?_
 refine AOps_q 17 _ rfl rfl rfl (QOp_neq _ _ _ _ _ _ _ rfl rfl rfl) ?_
 refine AOps_nil ?_
 refine kI h rfl (fun h _ => ?_) (fun h _ => ?_)
 ·refine kR ?_
  refine kN 3 rfl ?_
  refine ACode_ret ?_
  cases h
  exact ⟨_, _, fun r a w h => ⟨r, h⟩, _, _, [], _, (.cons (ResV_tmp _ _ rfl) (.cons (ResV_tmp _ _ rfl) .nil)), rfl, rfl, rfl, rfl, rfl⟩
 refine ACode_skip ?_
 refine kR ?_
 refine AOps_makeMap 19 _ rfl rfl rfl rfl 9 2 (fun m3 hm3 => ?_)
 refine AOps_buildSlice 20 _ _ _ [] (intsD ([] : List Int)) _ rfl rfl rfl rfl rfl (by decide) Tryz.underlying27 Tryz.sizeOf2 (zero_of Tryz.typeInfo2 rfl) rfl rfl (intsD_one _) ?_
 refine kN 2 rfl ?_
 refine kB (fun s13 => [(9, .vec 0 0)]) (fun s13 => [.vec 0 (intsD s13)]) h (fun s13 h => ?_) (fun s13 h => ?_)
 ·refine ACode_block ?_
  refine ACode_loopW (fun k0 E H => ∃ (x4 : Pos) (x5 : List (MK × Int)) (x6 : List Int), E = [(6, .ptr 0 0), (8, .d (.s m3)), (9, .vec 2 0)] ∧ H = [.box (posD x4), .mp m3 (mapI Tryz.prog 9 2 x5), .vec 0 (intsD x6)] ∧ impl_PlayOut_l0 k k0 x4 x5 x6 = some s13) k _ _ (Weak_keep 0 hm [6, 8, 9] [0, 1, 2] _ _ rfl rfl rfl) ⟨_, _, _, rfl, rfl, h⟩ ?_
  clear h
  rintro k0 E H ⟨x4, x5, x6, rfl, rfl, h⟩
  cases k0 with
  | zero => cases (show (none : Option (List Int)) = some _ from h)
  | succ k0 =>
   rw [impl_PlayOut_l0] at h
   refine ACode_seq ?_
   refine kR ?_
   refine AOps_q 21 _ rfl rfl rfl (QOp_loadN_ptr _ _ _ _ _ _ _ rfl Tryz.isAgg96 Tryz.sizeOf96 rfl rfl (posD_all _) (posD_length _)) ?_
   obtain ⟨r7, hr7, h⟩ := bindO h
   refine kC [] 22 (iV r7) [.box (posD x4), .mp m3 (mapI Tryz.prog 9 2 x5), .vec 0 (intsD x6)] rfl Tryz.call102 rfl rfl (impl_position_result_ac k x4 _ hr7) rfl ?_
   refine AOps_q 23 _ rfl rfl rfl (QOp_lss _ _ _ _ _ _ _ rfl rfl rfl) ?_
   refine AOps_nil ?_
   refine kI h rfl (fun h _ => ?_) (fun h _ => ?_)
   ·refine ACode_skip ?_
    refine ACode_block ?_
    refine kR ?_
    refine kM 1 rfl ?_
    refine AOps_q 25 _ rfl rfl rfl (QOp_loadN_ptr _ _ _ _ _ _ _ rfl Tryz.isAgg96 Tryz.sizeOf96 rfl rfl (posD_all _) (posD_length _)) ?_
    obtain ⟨r9, hr9, h⟩ := bindO h
    refine kC [1] 26 (.vec 3 0) [.box (posD x4), .mp m3 (mapI Tryz.prog 9 2 r9.2), .vec 0 (intsD x6), .vec 0 (intsD r9.1)] rfl Tryz.call103 rfl rfl (impl_player_best_ac k x5 x4 _ hr9) rfl ?_
    obtain ⟨hc10, h⟩ := guardO h
    refine AOps_q 27 _ rfl rfl rfl (QOp_indexAddr_vec _ _ _ _ _ _ _ _ _ rfl Tryz.underlying27 Tryz.sizeOf2 hc10.1 (by rw [intsD_length]; exact hc10.2) rfl rfl rfl) ?_
    refine AOps_q 28 _ rfl rfl rfl (QOp_load_eptr _ _ _ _ _ _ _ rfl Tryz.isAgg2 rfl rfl (intsD_get _ _ 0 (by omega))) ?_
    refine kN 1 rfl ?_
    refine kR ?_
    refine kM 2 rfl ?_
    refine AOps_buildSlice 31 _ _ _ [_] (intsD ([(r9.1.getD (0 : Int).toNat 0)])) _ rfl rfl rfl rfl rfl (by decide) Tryz.underlying27 Tryz.sizeOf2 (zero_of Tryz.typeInfo2 rfl) rfl rfl (intsD_one _) ?_
    obtain ⟨hc11, h⟩ := guardO h
    refine AOps_append 32 _ _ _ _ _ _ _ _ _ _ _ _ rfl rfl rfl rfl rfl rfl rfl Tryz.underlying27 Tryz.type2 rfl rfl rfl (by decide) rfl rfl rfl rfl (intsD_one _) (by rw [intsD_length, intsD_length]; exact hc11) ?_
    rw [intsD_app]
    refine kN 1 rfl ?_
    refine (ACode_region ?_)
    refine AOps_q 33 _ rfl rfl rfl (QOp_loadN_ptr _ _ _ _ _ _ _ rfl Tryz.isAgg96 Tryz.sizeOf96 rfl rfl (posD_all _) (posD_length _)) ?_
    refine kM 1 rfl ?_
    obtain ⟨r12, hr12, h⟩ := bindO h
    refine kC [] 35 (.d (.agg (posD r12))) [.box (posD x4), .mp m3 (mapI Tryz.prog 9 2 r9.2), .vec 1 (intsD (x6 ++ ([(r9.1.getD (0 : Int).toNat 0)]))), .vec 0 (intsD r9.1), .vec 0 (intsD ([(r9.1.getD (0 : Int).toNat 0)]))] rfl Tryz.call104 rfl rfl (impl_position_moved_ac k x4 (r9.1.getD (0 : Int).toNat 0) _ hr12) rfl ?_
    refine AOps_store _ _ _ _ _ _ (posD _) _ _ rfl rfl rfl rfl rfl rfl rfl (posD_one _) (by rw [posD_length]; exact Tryz.sizeOf96) (by rw [posD_length, posD_length]; decide) (posD_whole _ _) ?_
    refine AOps_nil ?_
    exact ⟨k0, _, _, Nat.lt_succ_self _, Weak_trans (Weak_keep 0 hm [6, 8, 9] [0, 1, 2] _ _ rfl rfl rfl) (Weak_reset 0 hm hz [6, 8, 9] _ _ rfl rfl), _, _, _, rfl, rfl, h⟩
   refine ACode_exit ?_
   cases h
   exact Weak_keep 0 hm [9] [2] _ _ rfl rfl rfl
 refine kR ?_
 refine kN 3 rfl ?_
 refine ACode_ret ?_
 cases h
 exact ⟨_, _, Weak_reset 0 hm hz [4, 5] _ _ rfl rfl, _, _, [0], _, (.cons (ResV_tmp _ _ rfl) (.cons (ResV_tmp _ _ rfl) .nil)), rfl, rfl, rfl, rfl, rfl⟩

-- loop.example/g01362/spec.l09Best
def spec_l09Best_l0 (k : Nat) (p0 : Int) (p1 : List Int) (r1 : Int × List Int) (r2 : List Int) : Nat → Int → (List Int) → (List Int) → Option (List Int × List Int)
 | 0, _, _, _ => none
 | k0 + 1, x3, x4, x5 => (if decide (x3 < (r2.length : Int)) then ((if 0 ≤ x3 ∧ x3 < (r2.length : Int) then (spec_l09Move k p1 (r2.getD x3.toNat 0)).bind fun r8 => (spec_l09Outcome k p0 r8 x4).bind fun r9 => (if decide (r9.1 = r1.1) then (if 0 ≤ x3 ∧ x3 < (r2.length : Int) then (if x5.length + ([(r2.getD x3.toNat 0)]).length ≤ 1099511627776 then some (r9.2, (x5 ++ ([(r2.getD x3.toNat 0)]))) else none) else none) else some (r9.2, x5)) else none) : Option (List Int × List Int)).bind fun s13 => spec_l09Best_l0 k p0 p1 r1 r2 k0 (w64 (x3 + 1)) s13.1 s13.2 else some (x4, x5))
def spec_l09Best (k : Nat) (p0 : Int) (p1 : List Int) (p2 : List Int) : Option (List Int × List Int) :=
 (spec_l09Outcome k p0 p1 p2).bind fun r1 => (spec_l09Free k p1).bind fun r2 => (spec_l09Best_l0 k p0 p1 r1 r2 k 0 r1.2 ([] : List Int) : Option (List Int × List Int)).bind fun s14 => some (s14.2, s14.1)
set_option maxRecDepth 100000 in
theorem spec_l09Best_ac (k : Nat) (p0 : Int) (p1 : List Int) (p2 : List Int) (r : List Int × List Int) (h : spec_l09Best k p0 p1 p2 = some r) : AC Tryz.prog 106 [iV p0, .d (.sl none (intsD p1)), .vec 0 0] [.vec 0 (intsD p2)] (fun res H' => res = [.vec 1 0] ∧ H' = [.vec 0 (intsD r.2), .vec 0 (intsD r.1)]) := by
 refine AC_of_body true Tryz.func106 rfl Tryz.ntmps106 (rvs := [.tmp 6]) rfl rfl (fun G hG => ?_)
 have hm : G.H.length = 1 := by rw [hG]; rfl
 have hz : zeroG G.H = true := by rw [hG]; rfl
 unfold spec_l09Best at h
 refine kR ?_
 refine kN 1 rfl ?_
 refine kR ?_
 refine kM 3 rfl ?_
 obtain ⟨r1, hr1, h⟩ := bindO h
 refine kC [0] 14 (iV r1.1) [.vec 0 (intsD r1.2)] rfl Tryz.call100 rfl rfl (spec_l09Outcome_ac k p0 p1 p2 _ hr1) rfl ?_
 refine kM 1 rfl ?_
 obtain ⟨r2, hr2, h⟩ := bindO h
 refine kC [] 16 (.vec 1 0) [.vec 0 (intsD r1.2), .vec 0 (intsD r2)] rfl Tryz.call155 rfl rfl (spec_l09Free_ac k p1 _ hr2) rfl ?_
 refine AOps_buildSlice 17 _ _ _ [] (intsD ([] : List Int)) _ rfl rfl rfl rfl rfl (by decide) Tryz.underlying27 Tryz.sizeOf2 (zero_of Tryz.typeInfo2 rfl) rfl rfl (intsD_one _) ?_
 refine kN 3 rfl ?_
 refine kB (fun s14 => [(9, .vec 1 0)]) (fun s14 => [.vec 0 (intsD s14.1), .vec 0 (intsD s14.2)]) h (fun s14 h => ?_) (fun s14 h => ?_)
 ·refine kR ?_
  refine kN 1 rfl ?_
  refine ACode_block ?_
  refine ACode_loopW (fun k0 E H => ∃ (x3 : Int) (x4 : List Int) (x5 : List Int), E = [(0, iV p0), (1, .d (.sl none (intsD p1))), (2, .vec 0 0), (7, iV r1.1), (8, .vec 1 0), (9, .vec 2 0), (10, iV x3)] ∧ H = [.vec 0 (intsD x4), .vec 0 (intsD r2), .vec 0 (intsD x5)] ∧ spec_l09Best_l0 k p0 p1 r1 r2 k0 x3 x4 x5 = some s14) k _ _ (Weak_keep 1 hm [0, 1, 2, 7, 8, 9, 10] [1, 2] _ _ rfl rfl rfl) ⟨_, _, _, rfl, rfl, h⟩ ?_
  clear h
  rintro k0 E H ⟨x3, x4, x5, rfl, rfl, h⟩
  cases k0 with
  | zero => cases (show (none : Option (List Int × List Int)) = some _ from h)
  | succ k0 =>
   rw [spec_l09Best_l0] at h
   refine ACode_seq ?_
   refine kR ?_
   refine kM 2 rfl ?_
   refine AOps_q 20 _ rfl rfl rfl (QOp_len_vec _ _ _ _ _ _ _ _ (intsD_length _) rfl rfl rfl rfl Tryz.underlying27 rfl rfl) ?_
   refine AOps_q 21 _ rfl rfl rfl (QOp_lss _ _ _ _ _ _ _ rfl rfl rfl) ?_
   refine AOps_nil ?_
   refine kI h rfl (fun h _ => ?_) (fun h _ => ?_)
   ·refine ACode_skip ?_
    refine kB (fun s13 => [(0, iV p0), (1, .d (.sl none (intsD p1))), (2, .vec 0 0), (7, iV r1.1), (8, .vec 1 0), (9, .vec 2 0), (10, iV x3)]) (fun s13 => [.vec 0 (intsD s13.1), .vec 0 (intsD r2), .vec 0 (intsD s13.2)]) h (fun s13 h => ?_) (fun s13 h => ?_)
    ·refine ACode_block ?_
     refine kR ?_
     refine kM 4 rfl ?_
     obtain ⟨hc7, h⟩ := guardO h
     refine AOps_q 28 _ rfl rfl rfl (QOp_indexAddr_vec _ _ _ _ _ _ _ _ _ rfl Tryz.underlying27 Tryz.sizeOf2 hc7.1 (by rw [intsD_length]; exact hc7.2) rfl rfl rfl) ?_
     refine AOps_q 29 _ rfl rfl rfl (QOp_load_eptr _ _ _ _ _ _ _ rfl Tryz.isAgg2 rfl rfl (intsD_get _ _ 0 (by omega))) ?_
     obtain ⟨r8, hr8, h⟩ := bindO h
     refine kC [] 30 (.vec 3 0) [.vec 0 (intsD x4), .vec 0 (intsD r2), .vec 0 (intsD x5), .vec 0 (intsD r8)] rfl Tryz.call107 rfl rfl (spec_l09Move_ac k p1 (r2.getD x3.toNat 0) _ hr8) rfl ?_
     refine kM 1 rfl ?_
     obtain ⟨r9, hr9, h⟩ := bindO h
     refine AOps_callL [0] 32 _ _ _ _ _ _ _ _ _ _ rfl rfl rfl rfl rfl rfl rfl Tryz.call100 rfl (nodupB_sound _ rfl) rfl rfl rfl (spec_l09Outcome_ac k p0 r8 x4 _ hr9) ?_
     rintro _ _ ⟨rfl, rfl⟩
     refine ⟨(allc (intsD_flat _) (fun _ h => nomatch h)), (allc (flat_s _) (fun _ h => nomatch h)), AOps_as 32 (v' := iV r9.1) (H' := [.vec 0 (intsD r9.2), .vec 0 (intsD r2), .vec 0 (intsD x5), .vec 0 (intsD r8)]) rfl rfl ?_⟩
     refine kM 1 rfl ?_
     refine AOps_q 34 _ rfl rfl rfl (QOp_eql _ _ _ _ _ _ _ rfl rfl rfl) ?_
     refine AOps_nil ?_
     refine kI h rfl (fun h _ => ?_) (fun h _ => ?_)
     ·refine (ACode_region ?_)
      refine kM 3 rfl ?_
      obtain ⟨hc11, h⟩ := guardO h
      refine AOps_q 38 _ rfl rfl rfl (QOp_indexAddr_vec _ _ _ _ _ _ _ _ _ rfl Tryz.underlying27 Tryz.sizeOf2 hc11.1 (by rw [intsD_length]; exact hc11.2) rfl rfl rfl) ?_
      refine AOps_q 39 _ rfl rfl rfl (QOp_load_eptr _ _ _ _ _ _ _ rfl Tryz.isAgg2 rfl rfl (intsD_get _ _ 0 (by omega))) ?_
      refine AOps_buildSlice 40 _ _ _ [_] (intsD ([(r2.getD x3.toNat 0)])) _ rfl rfl rfl rfl rfl (by decide) Tryz.underlying27 Tryz.sizeOf2 (zero_of Tryz.typeInfo2 rfl) rfl rfl (intsD_one _) ?_
      obtain ⟨hc12, h⟩ := guardO h
      refine AOps_append 41 _ _ _ _ _ _ _ _ _ _ _ _ rfl rfl rfl rfl rfl rfl rfl Tryz.underlying27 Tryz.type2 rfl rfl rfl (by decide) rfl rfl rfl rfl (intsD_one _) (by rw [intsD_length, intsD_length]; exact hc12) ?_
      rw [intsD_app]
      refine kN 1 rfl ?_
      cases h
      exact Weak_trans (Weak_keep 1 hm [0, 1, 2, 7, 8, 9, 10] [1, 2] _ _ rfl rfl rfl) (Weak_reset 1 hm hz [0, 1, 2, 7, 8, 9, 10] _ _ rfl rfl)
     refine ACode_skip ?_
     cases h
     exact Weak_keep 1 hm [0, 1, 2, 7, 8, 9, 10] [1, 2] _ _ rfl rfl rfl
    refine (ACode_region ?_)
    refine kM 1 rfl ?_
    refine AOps_q 23 _ rfl rfl rfl (QOp_add _ _ _ _ _ _ _ rfl rfl rfl) ?_
    refine kN 1 rfl ?_
    exact ⟨k0, _, _, Nat.lt_succ_self _, Weak_keep 1 hm [0, 1, 2, 7, 8, 9, 10] [1, 2] _ _ rfl rfl rfl, _, _, _, rfl, rfl, h⟩
   refine ACode_exit ?_
   cases h
   exact Weak_keep 1 hm [9] [2] _ _ rfl rfl rfl
 refine kR ?_
 refine kN 2 rfl ?_
 refine ACode_ret ?_
 cases h
 exact ⟨_, _, Weak_reset 1 hm hz [6] _ _ rfl rfl, _, _, [1], _, (.cons (ResV_tmp _ _ rfl) .nil), rfl, rfl, rfl, rfl, rfl⟩

-- loop.example/g01362/spec.PlayOut
def spec_PlayOut_l0 (k : Nat) (p0 : Int) : Nat → (List Int) → (List Int) → (List Int) → Option (List Int)
 | 0, _, _, _ => none
 | k0 + 1, x4, x5, x6 => (spec_l09Result k p0 x4).bind fun r7 => (if decide (r7 < 0) then (spec_l09Best k p0 x4 x5).bind fun r9 => (if 0 ≤ (0 : Int) ∧ (0 : Int) < (r9.1.length : Int) then (if x6.length + ([(r9.1.getD (0 : Int).toNat 0)]).length ≤ 1099511627776 then (spec_l09Move k x4 (r9.1.getD (0 : Int).toNat 0)).bind fun r12 => spec_PlayOut_l0 k p0 k0 r12 r9.2 (x6 ++ ([(r9.1.getD (0 : Int).toNat 0)])) else none) else none) else some x6)
def spec_PlayOut (k : Nat) (p0 : Int) (p1 : List Int) : Option (List Int × Int) :=
 (spec_l09Code k p0 p1).bind fun r1 => (if !decide (r1 = 0) then some ([], r1) else (spec_l09Table k p0).bind fun r3 => (spec_PlayOut_l0 k p0 k p1 r3 ([] : List Int) : Option (List Int)).bind fun s13 => some (s13, 0))
set_option maxRecDepth 100000 in
theorem spec_PlayOut_ac (k : Nat) (p0 : Int) (p1 : List Int) (r : List Int × Int) (h : spec_PlayOut k p0 p1 = some r) : AC Tryz.prog 46 [iV p0, .d (.sl none (intsD p1))] [] (fun res H' => res = [.d (.sl none (intsD r.1)), iV r.2] ∧ H' = []) := by
 refine AC_of_body true Tryz.func46 rfl Tryz.ntmps46 (rvs := [.tmp 4, .tmp 5]) rfl rfl (fun G hG => ?_)
 have hm : G.H.length = 0 := by rw [hG]; rfl
 have hz : zeroG G.H = true := by rw [hG]; rfl
 unfold spec_PlayOut at h
 refine kR ?_
 refine kN 2 rfl ?_
 refine ACode_seq ?_
 refine kR ?_
 refine kM 2 rfl ?_
 obtain ⟨r1, hr1, h⟩ := bindO h
 refine kC [] 12 (iV r1) [] rfl Tryz.call99 rfl rfl (spec_l09Code_ac k p0 p1 _ hr1) rfl ?_
 refine kN 1 rfl ?_
 refine kR ?_
 refine kM 1 rfl ?_
 refine AOps_q 14 _ rfl rfl rfl (QOp_neq _ _ _ _ _ _ _ rfl rfl rfl) ?_
 refine AOps_nil ?_
 refine kI h rfl (fun h _ => ?_) (fun h _ => ?_)
 ·refine kR ?_
  refine kN 3 rfl ?_
  refine ACode_ret ?_
  cases h
  exact ⟨_, _, fun r a w h => ⟨r, h⟩, _, _, [], _, (.cons (ResV_tmp _ _ rfl) (.cons (ResV_tmp _ _ rfl) .nil)), rfl, rfl, rfl, rfl, rfl⟩
 refine ACode_skip ?_
 refine kR ?_
 refine kM 1 rfl ?_
 obtain ⟨r3, hr3, h⟩ := bindO h
 refine kC [] 17 (.vec 0 0) [.vec 0 (intsD r3)] rfl Tryz.call101 rfl rfl (spec_l09Table_ac k p0 _ hr3) rfl ?_
 refine AOps_buildSlice 18 _ _ _ [] (intsD ([] : List Int)) _ rfl rfl rfl rfl rfl (by decide) Tryz.underlying27 Tryz.sizeOf2 (zero_of Tryz.typeInfo2 rfl) rfl rfl (intsD_one _) ?_
 refine kN 2 rfl ?_
 refine kB (fun s13 => [(8, .vec 0 0)]) (fun s13 => [.vec 0 (intsD s13)]) h (fun s13 h => ?_) (fun s13 h => ?_)
 ·refine ACode_block ?_
  refine ACode_loopW (fun k0 E H => ∃ (x4 : List Int) (x5 : List Int) (x6 : List Int), E = [(0, iV p0), (1, .d (.sl none (intsD x4))), (7, .vec 0 0), (8, .vec 1 0)] ∧ H = [.vec 0 (intsD x5), .vec 0 (intsD x6)] ∧ spec_PlayOut_l0 k p0 k0 x4 x5 x6 = some s13) k _ _ (Weak_keep 0 hm [0, 1, 7, 8] [0, 1] _ _ rfl rfl rfl) ⟨_, _, _, rfl, rfl, h⟩ ?_
  clear h
  rintro k0 E H ⟨x4, x5, x6, rfl, rfl, h⟩
  cases k0 with
  | zero => cases (show (none : Option (List Int)) = some _ from h)
  | succ k0 =>
   rw [spec_PlayOut_l0] at h
   refine ACode_seq ?_
   refine kR ?_
   refine kM 2 rfl ?_
   obtain ⟨r7, hr7, h⟩ := bindO h
   refine kC [] 21 (iV r7) [.vec 0 (intsD x5), .vec 0 (intsD x6)] rfl Tryz.call105 rfl rfl (spec_l09Result_ac k p0 x4 _ hr7) rfl ?_
   refine AOps_q 22 _ rfl rfl rfl (QOp_lss _ _ _ _ _ _ _ rfl rfl rfl) ?_
   refine AOps_nil ?_
   refine kI h rfl (fun h _ => ?_) (fun h _ => ?_)
   ·refine ACode_skip ?_
    refine ACode_block ?_
    refine kR ?_
    refine kM 3 rfl ?_
    obtain ⟨r9, hr9, h⟩ := bindO h
    refine kC [0] 26 (.vec 2 0) [.vec 0 (intsD r9.2), .vec 0 (intsD x6), .vec 0 (intsD r9.1)] rfl Tryz.call106 rfl rfl (spec_l09Best_ac k p0 x4 x5 _ hr9) rfl ?_
    obtain ⟨hc10, h⟩ := guardO h
    refine AOps_q 27 _ rfl rfl rfl (QOp_indexAddr_vec _ _ _ _ _ _ _ _ _ rfl Tryz.underlying27 Tryz.sizeOf2 hc10.1 (by rw [intsD_length]; exact hc10.2) rfl rfl rfl) ?_
    refine AOps_q 28 _ rfl rfl rfl (QOp_load_eptr _ _ _ _ _ _ _ rfl Tryz.isAgg2 rfl rfl (intsD_get _ _ 0 (by omega))) ?_
    refine kN 1 rfl ?_
    refine kR ?_
    refine kM 2 rfl ?_
    refine AOps_buildSlice 31 _ _ _ [_] (intsD ([(r9.1.getD (0 : Int).toNat 0)])) _ rfl rfl rfl rfl rfl (by decide) Tryz.underlying27 Tryz.sizeOf2 (zero_of Tryz.typeInfo2 rfl) rfl rfl (intsD_one _) ?_
    obtain ⟨hc11, h⟩ := guardO h
    refine AOps_append 32 _ _ _ _ _ _ _ _ _ _ _ _ rfl rfl rfl rfl rfl rfl rfl Tryz.underlying27 Tryz.type2 rfl rfl rfl (by decide) rfl rfl rfl rfl (intsD_one _) (by rw [intsD_length, intsD_length]; exact hc11) ?_
    rw [intsD_app]
    refine kN 1 rfl ?_
    refine (ACode_region ?_)
    refine kM 2 rfl ?_
    obtain ⟨r12, hr12, h⟩ := bindO h
    refine kC [] 35 (.vec 4 0) [.vec 0 (intsD r9.2), .vec 1 (intsD (x6 ++ ([(r9.1.getD (0 : Int).toNat 0)]))), .vec 0 (intsD r9.1), .vec 0 (intsD ([(r9.1.getD (0 : Int).toNat 0)])), .vec 0 (intsD r12)] rfl Tryz.call107 rfl rfl (spec_l09Move_ac k x4 (r9.1.getD (0 : Int).toNat 0) _ hr12) rfl ?_
    refine kN 1 rfl ?_
    exact ⟨k0, _, _, Nat.lt_succ_self _, Weak_trans (Weak_frz [1, 35] [] 4 0 _ (allc (rfl) (allc (rfl) (fun _ h => nomatch h))) (fun _ h => nomatch h) rfl) (Weak_trans (Weak_keep 0 hm [0, 1, 7, 8] [0, 1] _ _ rfl rfl rfl) (Weak_reset 0 hm hz [0, 1, 7, 8] _ _ rfl rfl)), _, _, _, rfl, rfl, h⟩
   refine ACode_exit ?_
   cases h
   exact Weak_keep 0 hm [8] [1] _ _ rfl rfl rfl
 refine kR ?_
 refine kN 3 rfl ?_
 refine ACode_ret ?_
 cases h
 exact ⟨_, _, fun r a w h => ⟨r, h⟩, _, _, [], _, (.cons (ResV_tmp _ _ rfl) (.cons (ResV_tmp _ _ rfl) .nil)), rfl, rfl, rfl, rfl, rfl⟩

-- loop.example/g01362/impl.BestMoves
def impl_BestMoves (k : Nat) (p0 : Int) (p1 : List Int) : Option (Option (List Int) × Int) :=
 (impl_position_code k (⟨p0, p1⟩ : Pos) (some (impl_always))).bind fun r1 => (((if decide (r1 = 0) then (impl_position_result k (⟨p0, p1⟩ : Pos)).bind fun r3 => some (decide (0 ≤ r3)) else some false) : Option (Bool)).bind fun s4 => (if s4 then some 5 else some r1) : Option (Int)).bind fun s6 => (if !decide (s6 = 0) then some (none, s6) else (impl_player_best k ([] : List (MK × Int)) (⟨p0, p1⟩ : Pos)).bind fun r9 => some (some r9.1, 0))
set_option maxRecDepth 100000 in
theorem impl_BestMoves_ac (k : Nat) (p0 : Int) (p1 : List Int) (r : Option (List Int) × Int) (h : impl_BestMoves k p0 p1 = some r) : AC Tryz.prog 47 [iV p0, .d (.sl none (intsD p1))] [] (fun res H' => res = [ownA 0 (r.1.map intsD), iV r.2] ∧ H' = [] ++ ownH (r.1.map intsD)) := by
 refine AC_of_body false Tryz.func47 rfl Tryz.ntmps47 (rvs := [.tmp 4, .tmp 5]) rfl rfl (fun G hG => ?_)
 have hm : G.H.length = 0 := by rw [hG]; rfl
 have hz : zeroG G.H = true := by rw [hG]; rfl
 unfold impl_BestMoves at h
 refine kR ?_
 refine kN 2 rfl ?_
 refine kR ?_
 refine kM 2 rfl ?_
 refine AOps_q 10 _ rfl rfl rfl (QOp_build _ _ [_, _] [0, 1] [iD p0, .sl none (intsD p1)] _ [iD 0, .sl (some true) []] (posD (⟨p0, p1⟩ : Pos)) [(0, 1), (1, 1)] rfl rfl Tryz.underlying96 (zero_of Tryz.typeInfo96 rfl) (fun w => by simp [Tryz.sizeOf2, Tryz.sizeOf27]) rfl (by rfl) (by rfl) (allc (ok1 rfl) (allc (ok1 rfl) (fun _ h => nomatch h)))) ?_
 refine AOps_alloc 6 _ _ ([iD 0, .sl (some true) []]) (zero_of Tryz.typeInfo96 rfl) (by rfl) rfl rfl rfl rfl ?_
 refine AOps_store _ _ _ _ _ _ (posD _) _ _ rfl rfl rfl rfl rfl rfl rfl (posD_one _) (by rw [posD_length]; exact Tryz.sizeOf96) (by show (2 : Nat) ≤ 2; decide) rfl ?_
 refine AOps_nil ?_
 refine kR ?_
 refine AOps_q 11 _ rfl rfl rfl (QOp_loadN_ptr _ _ _ _ _ _ _ rfl Tryz.isAgg96 Tryz.sizeOf96 rfl rfl (posD_all _) (posD_length _)) ?_
 obtain ⟨r1, hr1, h⟩ := bindO h
 refine kC [] 12 (iV r1) [.box (posD (⟨p0, p1⟩ : Pos))] rfl Tryz.call97 rfl rfl (impl_position_code_ac k (⟨p0, p1⟩ : Pos) (some (impl_always)) 81 ([]) Tryz.call81 (fun r h => by cases h; exact impl_always_ac) _ hr1) rfl ?_
 refine kN 1 rfl ?_
 refine kB (fun s6 => [(6, .ptr 0 0), (7, iV s6)]) (fun s6 => [.box (posD (⟨p0, p1⟩ : Pos))]) h (fun s6 h => ?_) (fun s6 h => ?_)
 ·refine kB (fun s4 => [(6, .ptr 0 0), (7, iV r1), (19, bV s4)]) (fun s4 => [.box (posD (⟨p0, p1⟩ : Pos))]) h (fun s4 h => ?_) (fun s4 h => ?_)
  ·refine (ACode_region ?_)
   refine kM 1 rfl ?_
   refine AOps_q 14 _ rfl rfl rfl (QOp_eql _ _ _ _ _ _ _ rfl rfl rfl) ?_
   refine kM 1 rfl ?_
   refine AOps_case 15 _ rfl (fun hb2 => ?_) (fun hb2 => ?_)
   ·have h := iteT hb2 h
    refine AOps_q 16 _ rfl rfl rfl (QOp_loadN_ptr _ _ _ _ _ _ _ rfl Tryz.isAgg96 Tryz.sizeOf96 rfl rfl (posD_all _) (posD_length _)) ?_
    obtain ⟨r3, hr3, h⟩ := bindO h
    refine kC [] 17 (iV r3) [.box (posD (⟨p0, p1⟩ : Pos))] rfl Tryz.call102 rfl rfl (impl_position_result_ac k (⟨p0, p1⟩ : Pos) _ hr3) rfl ?_
    refine AOps_q 18 _ rfl rfl rfl (QOp_geq _ _ _ _ _ _ _ rfl rfl rfl) ?_
    refine kN 1 rfl ?_
    cases h
    exact Weak_keep 0 hm [6, 7, 19] [0] _ _ rfl rfl rfl
   have h := iteF hb2 h
   refine AOps_skip 16 rfl rfl rfl ?_
   refine AOps_skip 17 rfl rfl rfl ?_
   refine AOps_skip 18 rfl rfl rfl ?_
   refine kN 1 rfl ?_
   cases h
   exact Weak_keep 0 hm [6, 7, 19] [0] _ _ rfl rfl rfl
  refine kI h rfl (fun h _ => ?_) (fun h _ => ?_)
  ·refine (ACode_region ?_)
   refine kN 1 rfl ?_
   cases h
   exact Weak_keep 0 hm [6, 7] [0] _ _ rfl rfl rfl
  refine ACode_skip ?_
  cases h
  exact Weak_keep 0 hm [6, 7] [0] _ _ rfl rfl rfl
 refine ACode_seq ?_
 refine kR ?_
 refine kM 1 rfl ?_
 refine AOps_q 21 _ rfl rfl rfl (QOp_neq _ _ _ _ _ _ _ rfl rfl rfl) ?_
 refine AOps_nil ?_
 refine kI h rfl (fun h _ => ?_) (fun h _ => ?_)
 ·refine kR ?_
  refine kN 3 rfl ?_
  refine ACode_ret ?_
  cases h
  exact ⟨_, _, fun r a w h => ⟨r, h⟩, _, _, [], _, (.cons (ResV_tmp _ _ rfl) (.cons (ResV_tmp _ _ rfl) .nil)), rfl, rfl, rfl, rfl, rfl⟩
 refine ACode_skip ?_
 refine kR ?_
 refine AOps_makeMap 23 _ rfl rfl rfl rfl 9 2 (fun m8 hm8 => ?_)
 refine AOps_q 24 _ rfl rfl rfl (QOp_loadN_ptr _ _ _ _ _ _ _ rfl Tryz.isAgg96 Tryz.sizeOf96 rfl rfl (posD_all _) (posD_length _)) ?_
 obtain ⟨r9, hr9, h⟩ := bindO h
 refine kC [1] 25 (.vec 2 0) [.box (posD (⟨p0, p1⟩ : Pos)), .mp m8 (mapI Tryz.prog 9 2 r9.2), .vec 0 (intsD r9.1)] rfl Tryz.call103 rfl rfl (impl_player_best_ac k ([] : List (MK × Int)) (⟨p0, p1⟩ : Pos) _ hr9) rfl ?_
 refine kN 2 rfl ?_
 refine ACode_ret ?_
 cases h
 exact ⟨_, _, Weak_reset 0 hm hz [4, 5] _ _ rfl rfl, _, _, [2], _, (.cons (ResV_tmp _ _ rfl) (.cons (ResV_tmp _ _ rfl) .nil)), rfl, rfl, rfl, rfl, rfl⟩

-- loop.example/g01362/spec.BestMoves
def spec_BestMoves (k : Nat) (p0 : Int) (p1 : List Int) : Option (List Int × Int) :=
 (spec_l09Code k p0 p1).bind fun r1 => (if !decide (r1 = 0) then some ([], r1) else (spec_l09Result k p0 p1).bind fun r3 => (if decide (0 ≤ r3) then some ([], 5) else (spec_l09Table k p0).bind fun r5 => (spec_l09Best k p0 p1 r5).bind fun r6 => some (r6.1, 0)))
set_option maxRecDepth 100000 in
theorem spec_BestMoves_ac (k : Nat) (p0 : Int) (p1 : List Int) (r : List Int × Int) (h : spec_BestMoves k p0 p1 = some r) : AC Tryz.prog 48 [iV p0, .d (.sl none (intsD p1))] [] (fun res H' => res = [.d (.sl none (intsD r.1)), iV r.2] ∧ H' = []) := by
 refine AC_of_body true Tryz.func48 rfl Tryz.ntmps48 (rvs := [.tmp 4, .tmp 5]) rfl rfl (fun G hG => ?_)
 have hm : G.H.length = 0 := by rw [hG]; rfl
 have hz : zeroG G.H = true := by rw [hG]; rfl
 unfold spec_BestMoves at h
 refine kR ?_
 refine kN 2 rfl ?_
 refine ACode_seq ?_
 refine kR ?_
 refine kM 2 rfl ?_
 obtain ⟨r1, hr1, h⟩ := bindO h
 refine kC [] 9 (iV r1) [] rfl Tryz.call99 rfl rfl (spec_l09Code_ac k p0 p1 _ hr1) rfl ?_
 refine kN 1 rfl ?_
 refine kR ?_
 refine kM 1 rfl ?_
 refine AOps_q 11 _ rfl rfl rfl (QOp_neq _ _ _ _ _ _ _ rfl rfl rfl) ?_
 refine AOps_nil ?_
 refine kI h rfl (fun h _ => ?_) (fun h _ => ?_)
 ·refine kR ?_
  refine kN 3 rfl ?_
  refine ACode_ret ?_
  cases h
  exact ⟨_, _, fun r a w h => ⟨r, h⟩, _, _, [], _, (.cons (ResV_tmp _ _ rfl) (.cons (ResV_tmp _ _ rfl) .nil)), rfl, rfl, rfl, rfl, rfl⟩
 refine ACode_skip ?_
 refine ACode_seq ?_
 refine kR ?_
 refine kM 2 rfl ?_
 obtain ⟨r3, hr3, h⟩ := bindO h
 refine kC [] 15 (iV r3) [] rfl Tryz.call105 rfl rfl (spec_l09Result_ac k p0 p1 _ hr3) rfl ?_
 refine AOps_q 16 _ rfl rfl rfl (QOp_geq _ _ _ _ _ _ _ rfl rfl rfl) ?_
 refine AOps_nil ?_
 refine kI h rfl (fun h _ => ?_) (fun h _ => ?_)
 ·refine kR ?_
  refine kN 2 rfl ?_
  refine ACode_ret ?_
  cases h
  exact ⟨_, _, fun r a w h => ⟨r, h⟩, _, _, [], _, (.cons (ResV_tmp _ _ rfl) (.cons (ResV_tmp _ _ rfl) .nil)), rfl, rfl, rfl, rfl, rfl⟩
 refine ACode_skip ?_
 refine kR ?_
 refine kM 3 rfl ?_
 obtain ⟨r5, hr5, h⟩ := bindO h
 refine kC [] 20 (.vec 0 0) [.vec 0 (intsD r5)] rfl Tryz.call101 rfl rfl (spec_l09Table_ac k p0 _ hr5) rfl ?_
 obtain ⟨r6, hr6, h⟩ := bindO h
 refine kC [0] 21 (.vec 1 0) [.vec 0 (intsD r6.2), .vec 0 (intsD r6.1)] rfl Tryz.call106 rfl rfl (spec_l09Best_ac k p0 p1 r5 _ hr6) rfl ?_
 refine kN 2 rfl ?_
 refine ACode_ret ?_
 cases h
 exact ⟨_, _, fun r a w h => ⟨r, h⟩, _, _, [], _, (.cons (ResV_tmp _ _ rfl) (.cons (ResV_tmp _ _ rfl) .nil)), rfl, rfl, rfl, rfl, rfl⟩

-- loop.example/g01362/laws.likeInts
def laws_likeInts_l0 (p0 : List Int) (p1 : List Int) : Nat → Int → Option (Sum (Unit) (Bool))
 | 0, _ => none
 | k0 + 1, x2 => (if decide (x2 < (p0.length : Int)) then (if 0 ≤ x2 ∧ x2 < (p0.length : Int) then (if 0 ≤ x2 ∧ x2 < (p1.length : Int) then (if !decide ((p0.getD x2.toNat 0) = (p1.getD x2.toNat 0)) then some (.inr false) else laws_likeInts_l0 p0 p1 k0 (w64 (x2 + 1))) else none) else none) else some (.inl ()))
def laws_likeInts (k : Nat) (p0 : List Int) (p1 : List Int) : Option (Bool) :=
 (if !decide ((p0.length : Int) = (p1.length : Int)) then some false else (laws_likeInts_l0 p0 p1 k 0 : Option (Sum (Unit) (Bool))).bind fun os7 => (match os7 with | .inl s7 => some true | .inr rr => some rr))
set_option maxRecDepth 100000 in
theorem laws_likeInts_ac (k : Nat) (p0 : List Int) (p1 : List Int) (r : Bool) (h : laws_likeInts k p0 p1 = some r) : AC Tryz.prog 32 [.d (.sl none (intsD p0)), .d (.sl none (intsD p1))] [] (fun res H' => res = [bV r] ∧ H' = []) := by
 refine AC_of_body true Tryz.func32 rfl Tryz.ntmps32 (rvs := [.tmp 4]) rfl rfl (fun G hG => ?_)
 have hm : G.H.length = 0 := by rw [hG]; rfl
 have hz : zeroG G.H = true := by rw [hG]; rfl
 unfold laws_likeInts at h
 refine kR ?_
 refine kN 1 rfl ?_
 refine ACode_seq ?_
 refine kR ?_
 refine kM 1 rfl ?_
 refine AOps_q 7 _ rfl rfl rfl (QOp_len_sl _ _ _ _ _ _ _ (intsD_length _) rfl rfl rfl rfl Tryz.underlying27 rfl) ?_
 refine kM 1 rfl ?_
 refine AOps_q 9 _ rfl rfl rfl (QOp_len_sl _ _ _ _ _ _ _ (intsD_length _) rfl rfl rfl rfl Tryz.underlying27 rfl) ?_
 refine AOps_q 10 _ rfl rfl rfl (QOp_neq _ _ _ _ _ _ _ rfl rfl rfl) ?_
 refine AOps_nil ?_
 refine kI h rfl (fun h _ => ?_) (fun h _ => ?_)
 ·refine kR ?_
  refine kN 1 rfl ?_
  refine ACode_ret ?_
  cases h
  exact ⟨_, _, fun r a w h => ⟨r, h⟩, _, _, [], _, (.cons (ResV_tmp _ _ rfl) .nil), rfl, rfl, rfl, rfl, rfl⟩
 refine ACode_skip ?_
 refine kO (fun s7 => []) (fun s7 => []) h (fun os7 h hks7 => ?_) (fun s7 h => ?_)
 ·refine kR ?_
  refine kN 1 rfl ?_
  refine ACode_block ?_
  refine ACode_loopW (fun k0 E H => ∃ (x2 : Int), E = [(0, .d (.sl none (intsD p0))), (1, .d (.sl none (intsD p1))), (5, iV x2)] ∧ H = [] ∧ laws_likeInts_l0 p0 p1 k0 x2 = some os7) k _ _ (Weak_keep 0 hm [0, 1, 5] [] _ _ rfl rfl rfl) ⟨_, rfl, rfl, h⟩ ?_
  clear h
  rintro k0 E H ⟨x2, rfl, rfl, h⟩
  cases k0 with
  | zero => cases (show (none : Option (Sum (Unit) (Bool))) = some _ from h)
  | succ k0 =>
   rw [laws_likeInts_l0] at h
   refine ACode_seq ?_
   refine kR ?_
   refine kM 2 rfl ?_
   refine AOps_q 13 _ rfl rfl rfl (QOp_len_sl _ _ _ _ _ _ _ (intsD_length _) rfl rfl rfl rfl Tryz.underlying27 rfl) ?_
   refine AOps_q 14 _ rfl rfl rfl (QOp_lss _ _ _ _ _ _ _ rfl rfl rfl) ?_
   refine AOps_nil ?_
   refine kI h rfl (fun h _ => ?_) (fun h _ => ?_)
   ·refine ACode_skip ?_
    refine ACode_seq ?_
    refine ACode_block ?_
    refine ACode_seq (ACode_quiet mixed (by kernel_rfl) ?_)
    refine kQ 2 rfl ?_
    obtain ⟨hc4, h⟩ := guardO h
    refine AQ_q 19 _ rfl rfl rfl (QOp_indexAddr_sl _ _ _ _ _ _ _ _ rfl Tryz.underlying27 Tryz.sizeOf2 hc4.1 (by rw [intsD_length]; exact hc4.2) rfl rfl) ?_
    refine AQ_q 20 _ rfl rfl rfl (QOp_load_pv _ _ _ _ _ rfl Tryz.isAgg2 rfl (intsD_get _ _ 0 (by omega))) ?_
    refine kQ 2 rfl ?_
    obtain ⟨hc5, h⟩ := guardO h
    refine AQ_q 23 _ rfl rfl rfl (QOp_indexAddr_sl _ _ _ _ _ _ _ _ rfl Tryz.underlying27 Tryz.sizeOf2 hc5.1 (by rw [intsD_length]; exact hc5.2) rfl rfl) ?_
    refine AQ_q 24 _ rfl rfl rfl (QOp_load_pv _ _ _ _ _ rfl Tryz.isAgg2 rfl (intsD_get _ _ 0 (by omega))) ?_
    refine AQ_q 25 _ rfl rfl rfl (QOp_neq _ _ _ _ _ _ _ rfl rfl rfl) ?_
    refine AQ_nil ?_
    refine kI h rfl (fun h _ => ?_) (fun h _ => ?_)
    ·refine kR ?_
     refine kN 1 rfl ?_
     refine ACode_ret ?_
     cases h
     have h := hks7
     cases h
     exact ⟨_, _, fun r a w h => ⟨r, h⟩, _, _, [], _, (.cons (ResV_tmp _ _ rfl) .nil), rfl, rfl, rfl, rfl, rfl⟩
    refine ACode_skip ?_
    refine (ACode_region ?_)
    refine kM 1 rfl ?_
    refine AOps_q 16 _ rfl rfl rfl (QOp_add _ _ _ _ _ _ _ rfl rfl rfl) ?_
    refine kN 1 rfl ?_
    exact ⟨k0, _, _, Nat.lt_succ_self _, Weak_keep 0 hm [0, 1, 5] [] _ _ rfl rfl rfl, _, rfl, rfl, h⟩
   refine ACode_exit ?_
   cases h
   exact ⟨_, rfl, Weak_keep 0 hm [] [] _ _ rfl rfl rfl⟩
 refine kR ?_
 refine kN 1 rfl ?_
 refine ACode_ret ?_
 cases h
 exact ⟨_, _, fun r a w h => ⟨r, h⟩, _, _, [], _, (.cons (ResV_tmp _ _ rfl) .nil), rfl, rfl, rfl, rfl, rfl⟩

-- loop.example/g01362/impl.MakeMove$1
def impl_MakeMove_c1 (p0 : Int) (p1 : List Int) : Bool :=
 (impl_in p0 0 (w64 ((impl_size p1) - 1)))
set_option maxRecDepth 100000 in
theorem impl_MakeMove_c1_ac (p0 : Int) (p1 : List Int) : AC Tryz.prog 108 [.d (.pv ([iD p0]) 0), .d (.pv ([.sl none (intsD p1)]) 0)] [] (fun res H' => res = [bV (impl_MakeMove_c1 p0 p1)] ∧ H' = []) := by
 refine AC_of_body true Tryz.func108 rfl Tryz.ntmps108 (rvs := [.tmp 2]) rfl rfl (fun G hG => ?_)
 have hm : G.H.length = 0 := by rw [hG]; rfl
 have hz : zeroG G.H = true := by rw [hG]; rfl
 obtain ⟨r, h⟩ : ∃ r, impl_MakeMove_c1 p0 p1 = r := ⟨_, rfl⟩
 rw [h]
 unfold impl_MakeMove_c1 at h
 refine kR ?_
 refine kN 1 rfl ?_
 refine ACode_seq (ACode_quiet mixed (by kernel_rfl) ?_)
 refine AQ_q 3 _ rfl rfl rfl (QOp_load_pv _ _ _ _ _ rfl Tryz.isAgg2 rfl rfl) ?_
 refine AQ_q 4 _ rfl rfl rfl (QOp_load_pv _ _ _ _ _ rfl Tryz.isAgg27 rfl rfl) ?_
 refine AQ_call 5 _ _ _ _ _ _ _ _ _ rfl rfl rfl rfl rfl rfl rfl Tryz.call63 rfl rfl rfl (impl_size_ac p1) ?_
 refine AQ_q 6 _ rfl rfl rfl (QOp_sub _ _ _ _ _ _ _ rfl rfl rfl) ?_
 refine AQ_call 7 _ _ _ _ _ _ _ _ _ rfl rfl rfl rfl rfl rfl rfl Tryz.call60 rfl rfl rfl (impl_in_ac p0 0 (w64 ((impl_size p1) - 1))) ?_
 refine kQ 1 rfl ?_
 refine AQ_nil ?_
 refine ACode_ret ?_
 cases h
 exact ⟨_, _, fun r a w h => ⟨r, h⟩, _, _, [], _, (.cons (ResV_tmp _ _ rfl) .nil), rfl, rfl, rfl, rfl, rfl⟩

-- loop.example/g01362/impl.MakeMove
def impl_MakeMove (k : Nat) (p0 : Int) (p1 : List Int) (p2 : Int) : Option (List Int × Int) :=
 (impl_position_code k (⟨p0, p1⟩ : Pos) (some (impl_MakeMove_c1 p2 p1))).bind fun r1 => (((if decide (r1 = 0) then (impl_position_result k (⟨p0, p1⟩ : Pos)).bind fun r3 => (if decide (0 ≤ r3) then some true else (if 0 ≤ p2 ∧ p2 < (p1.length : Int) then some (decide (0 ≤ (p1.getD p2.toNat 0))) else none)) else some false) : Option (Bool)).bind fun s6 => (if s6 then some 5 else some r1) : Option (Int)).bind fun s8 => (if !decide (s8 = 0) then some ([], s8) else (impl_position_moved k (⟨p0, p1⟩ : Pos) p2).bind fun r10 => some (r10.l, 0))
set_option maxRecDepth 100000 in
theorem impl_MakeMove_ac (k : Nat) (p0 : Int) (p1 : List Int) (p2 : Int) (r : List Int × Int) (h : impl_MakeMove k p0 p1 p2 = some r) : AC Tryz.prog 49 [iV p0, .d (.sl none (intsD p1)), iV p2] [] (fun res H' => res = [.d (.sl none (intsD r.1)), iV r.2] ∧ H' = []) := by
 refine AC_of_body true Tryz.func49 rfl Tryz.ntmps49 (rvs := [.tmp 6, .tmp 7]) rfl rfl (fun G hG => ?_)
 have hm : G.H.length = 0 := by rw [hG]; rfl
 have hz : zeroG G.H = true := by rw [hG]; rfl
 unfold impl_MakeMove at h
 refine kR ?_
 refine AOps_boxI 4 _ _ (.sl none (intsD p1)) _ rfl (fun c hc => by cases hc with | head => rfl | tail _ h => cases h) rfl rfl rfl rfl rfl ?_
 refine AOps_boxI 5 _ _ (iD p2) _ rfl (fun c hc => by cases hc with | head => rfl | tail _ h => cases h) rfl rfl rfl rfl rfl ?_
 refine kN 2 rfl ?_
 refine kR ?_
 refine kM 1 rfl ?_
 refine AOps_q 11 _ rfl rfl rfl (QOp_load_pv _ _ _ _ _ rfl Tryz.isAgg27 rfl rfl) ?_
 refine AOps_q 12 _ rfl rfl rfl (QOp_build _ _ [_, _] [0, 1] [iD p0, .sl none (intsD p1)] _ [iD 0, .sl (some true) []] (posD (⟨p0, p1⟩ : Pos)) [(0, 1), (1, 1)] rfl rfl Tryz.underlying96 (zero_of Tryz.typeInfo96 rfl) (fun w => by simp [Tryz.sizeOf2, Tryz.sizeOf27]) rfl (by rfl) (by rfl) (allc (ok1 rfl) (allc (ok1 rfl) (fun _ h => nomatch h)))) ?_
 refine AOps_alloc 8 _ _ ([iD 0, .sl (some true) []]) (zero_of Tryz.typeInfo96 rfl) (by rfl) rfl rfl rfl rfl ?_
 refine AOps_store _ _ _ _ _ _ (posD _) _ _ rfl rfl rfl rfl rfl rfl rfl (posD_one _) (by rw [posD_length]; exact Tryz.sizeOf96) (by show (2 : Nat) ≤ 2; decide) rfl ?_
 refine AOps_nil ?_
 refine kR ?_
 refine AOps_q 13 _ rfl rfl rfl (QOp_loadN_ptr _ _ _ _ _ _ _ rfl Tryz.isAgg96 Tryz.sizeOf96 rfl rfl (posD_all _) (posD_length _)) ?_
 refine AOps_q 14 _ rfl rfl rfl (QOp_makeFuncD _ _ _ _ rfl rfl rfl) ?_
 obtain ⟨r1, hr1, h⟩ := bindO h
 refine kC [] 15 (iV r1) [.box (posD (⟨p0, p1⟩ : Pos))] rfl Tryz.call97 rfl rfl (impl_position_code_ac k (⟨p0, p1⟩ : Pos) (some (impl_MakeMove_c1 p2 p1)) 108 ([.pv ([iD p2]) 0, .pv ([.sl none (intsD p1)]) 0]) Tryz.call108 (fun r h => by cases h; exact impl_MakeMove_c1_ac p2 p1) _ hr1) rfl ?_
 refine kN 1 rfl ?_
 refine kB (fun s8 => [(5, .d (.pv ([iD p2]) 0)), (8, .ptr 0 0), (9, iV s8)]) (fun s8 => [.box (posD (⟨p0, p1⟩ : Pos))]) h (fun s8 h => ?_) (fun s8 h => ?_)
 ·refine kB (fun s6 => [(5, .d (.pv ([iD p2]) 0)), (8, .ptr 0 0), (9, iV r1), (29, bV s6)]) (fun s6 => [.box (posD (⟨p0, p1⟩ : Pos))]) h (fun s6 h => ?_) (fun s6 h => ?_)
  ·refine (ACode_region ?_)
   refine kM 1 rfl ?_
   refine AOps_q 17 _ rfl rfl rfl (QOp_eql _ _ _ _ _ _ _ rfl rfl rfl) ?_
   refine kM 1 rfl ?_
   refine AOps_case 18 _ rfl (fun hb2 => ?_) (fun hb2 => ?_)
   ·have h := iteT hb2 h
    refine AOps_q 19 _ rfl rfl rfl (QOp_loadN_ptr _ _ _ _ _ _ _ rfl Tryz.isAgg96 Tryz.sizeOf96 rfl rfl (posD_all _) (posD_length _)) ?_
    obtain ⟨r3, hr3, h⟩ := bindO h
    refine kC [] 20 (iV r3) [.box (posD (⟨p0, p1⟩ : Pos))] rfl Tryz.call102 rfl rfl (impl_position_result_ac k (⟨p0, p1⟩ : Pos) _ hr3) rfl ?_
    refine AOps_q 21 _ rfl rfl rfl (QOp_geq _ _ _ _ _ _ _ rfl rfl rfl) ?_
    refine kM 1 rfl ?_
    refine AOps_case 22 _ rfl (fun hb4 => ?_) (fun hb4 => ?_)
    ·have h := iteT hb4 h
     refine AOps_skip 23 rfl rfl rfl ?_
     refine AOps_skip 24 rfl rfl rfl ?_
     refine AOps_skip 25 rfl rfl rfl ?_
     refine AOps_skip 26 rfl rfl rfl ?_
     refine AOps_skip 27 rfl rfl rfl ?_
     refine kN 2 rfl ?_
     cases h
     exact Weak_keep 0 hm [5, 8, 9, 29] [0] _ _ rfl rfl rfl
    have h := iteF hb4 h
    refine AOps_q 23 _ rfl rfl rfl (QOp_load_pv _ _ _ _ _ rfl Tryz.isAgg27 rfl rfl) ?_
    refine AOps_q 24 _ rfl rfl rfl (QOp_load_pv _ _ _ _ _ rfl Tryz.isAgg2 rfl rfl) ?_
    obtain ⟨hc5, h⟩ := guardO h
    refine AOps_q 25 _ rfl rfl rfl (QOp_indexAddr_sl _ _ _ _ _ _ _ _ rfl Tryz.underlying27 Tryz.sizeOf2 hc5.1 (by rw [intsD_length]; exact hc5.2) rfl rfl) ?_
    refine AOps_q 26 _ rfl rfl rfl (QOp_load_pv _ _ _ _ _ rfl Tryz.isAgg2 rfl (intsD_get _ _ 0 (by omega))) ?_
    refine AOps_q 27 _ rfl rfl rfl (QOp_geq _ _ _ _ _ _ _ rfl rfl rfl) ?_
    refine kN 2 rfl ?_
    cases h
    exact Weak_keep 0 hm [5, 8, 9, 29] [0] _ _ rfl rfl rfl
   have h := iteF hb2 h
   refine AOps_skip 19 rfl rfl rfl ?_
   refine AOps_skip 20 rfl rfl rfl ?_
   refine AOps_skip 21 rfl rfl rfl ?_
   refine AOps_skip 22 rfl rfl rfl ?_
   refine AOps_skip 23 rfl rfl rfl ?_
   refine AOps_skip 24 rfl rfl rfl ?_
   refine AOps_skip 25 rfl rfl rfl ?_
   refine AOps_skip 26 rfl rfl rfl ?_
   refine AOps_skip 27 rfl rfl rfl ?_
   refine AOps_skip 28 rfl rfl rfl ?_
   refine kN 1 rfl ?_
   cases h
   exact Weak_keep 0 hm [5, 8, 9, 29] [0] _ _ rfl rfl rfl
  refine kI h rfl (fun h _ => ?_) (fun h _ => ?_)
  ·refine (ACode_region ?_)
   refine kN 1 rfl ?_
   cases h
   exact Weak_keep 0 hm [5, 8, 9] [0] _ _ rfl rfl rfl
  refine ACode_skip ?_
  cases h
  exact Weak_keep 0 hm [5, 8, 9] [0] _ _ rfl rfl rfl
 refine ACode_seq ?_
 refine kR ?_
 refine kM 1 rfl ?_
 refine AOps_q 31 _ rfl rfl rfl (QOp_neq _ _ _ _ _ _ _ rfl rfl rfl) ?_
 refine AOps_nil ?_
 refine kI h rfl (fun h _ => ?_) (fun h _ => ?_)
 ·refine kR ?_
  refine kN 3 rfl ?_
  refine ACode_ret ?_
  cases h
  exact ⟨_, _, fun r a w h => ⟨r, h⟩, _, _, [], _, (.cons (ResV_tmp _ _ rfl) (.cons (ResV_tmp _ _ rfl) .nil)), rfl, rfl, rfl, rfl, rfl⟩
 refine ACode_skip ?_
 refine kR ?_
 refine AOps_q 33 _ rfl rfl rfl (QOp_loadN_ptr _ _ _ _ _ _ _ rfl Tryz.isAgg96 Tryz.sizeOf96 rfl rfl (posD_all _) (posD_length _)) ?_
 refine AOps_q 34 _ rfl rfl rfl (QOp_load_pv _ _ _ _ _ rfl Tryz.isAgg2 rfl rfl) ?_
 obtain ⟨r10, hr10, h⟩ := bindO h
 refine kC [] 35 (.d (.agg (posD r10))) [.box (posD (⟨p0, p1⟩ : Pos))] rfl Tryz.call104 rfl rfl (impl_position_moved_ac k (⟨p0, p1⟩ : Pos) p2 _ hr10) rfl ?_
 refine AOps_q 36 _ rfl rfl rfl (QOp_field_agg _ _ _ _ 1 _ _ _ rfl Tryz.underlying96 rfl Tryz.isAgg27 rfl rfl rfl) ?_
 refine kN 2 rfl ?_
 refine ACode_ret ?_
 cases h
 exact ⟨_, _, fun r a w h => ⟨r, h⟩, _, _, [], _, (.cons (ResV_tmp _ _ rfl) (.cons (ResV_tmp _ _ rfl) .nil)), rfl, rfl, rfl, rfl, rfl⟩

-- loop.example/g01362/impl.ResultOf
def impl_ResultOf (k : Nat) (p0 : Int) (p1 : List Int) : Option (Int × Int) :=
 (impl_position_code k (⟨p0, p1⟩ : Pos) (some (impl_always))).bind fun r1 => (if !decide (r1 = 0) then some (0, r1) else (impl_position_result k (⟨p0, p1⟩ : Pos)).bind fun r3 => some (r3, 0))
set_option maxRecDepth 100000 in
theorem impl_ResultOf_ac (k : Nat) (p0 : Int) (p1 : List Int) (r : Int × Int) (h : impl_ResultOf k p0 p1 = some r) : AC Tryz.prog 50 [iV p0, .d (.sl none (intsD p1))] [] (fun res H' => res = [iV r.1, iV r.2] ∧ H' = []) := by
 refine AC_of_body true Tryz.func50 rfl Tryz.ntmps50 (rvs := [.tmp 4, .tmp 5]) rfl rfl (fun G hG => ?_)
 have hm : G.H.length = 0 := by rw [hG]; rfl
 have hz : zeroG G.H = true := by rw [hG]; rfl
 unfold impl_ResultOf at h
 refine kR ?_
 refine kN 2 rfl ?_
 refine kR ?_
 refine kM 2 rfl ?_
 refine AOps_q 10 _ rfl rfl rfl (QOp_build _ _ [_, _] [0, 1] [iD p0, .sl none (intsD p1)] _ [iD 0, .sl (some true) []] (posD (⟨p0, p1⟩ : Pos)) [(0, 1), (1, 1)] rfl rfl Tryz.underlying96 (zero_of Tryz.typeInfo96 rfl) (fun w => by simp [Tryz.sizeOf2, Tryz.sizeOf27]) rfl (by rfl) (by rfl) (allc (ok1 rfl) (allc (ok1 rfl) (fun _ h => nomatch h)))) ?_
 refine AOps_alloc 6 _ _ ([iD 0, .sl (some true) []]) (zero_of Tryz.typeInfo96 rfl) (by rfl) rfl rfl rfl rfl ?_
 refine AOps_store _ _ _ _ _ _ (posD _) _ _ rfl rfl rfl rfl rfl rfl rfl (posD_one _) (by rw [posD_length]; exact Tryz.sizeOf96) (by show (2 : Nat) ≤ 2; decide) rfl ?_
 refine AOps_nil ?_
 refine ACode_seq ?_
 refine kR ?_
 refine AOps_q 11 _ rfl rfl rfl (QOp_loadN_ptr _ _ _ _ _ _ _ rfl Tryz.isAgg96 Tryz.sizeOf96 rfl rfl (posD_all _) (posD_length _)) ?_
 obtain ⟨r1, hr1, h⟩ := bindO h
 refine kC [] 12 (iV r1) [.box (posD (⟨p0, p1⟩ : Pos))] rfl Tryz.call97 rfl rfl (impl_position_code_ac k (⟨p0, p1⟩ : Pos) (some (impl_always)) 81 ([]) Tryz.call81 (fun r h => by cases h; exact impl_always_ac) _ hr1) rfl ?_
 refine kN 1 rfl ?_
 refine kR ?_
 refine kM 1 rfl ?_
 refine AOps_q 14 _ rfl rfl rfl (QOp_neq _ _ _ _ _ _ _ rfl rfl rfl) ?_
 refine AOps_nil ?_
 refine kI h rfl (fun h _ => ?_) (fun h _ => ?_)
 ·refine kR ?_
  refine kN 3 rfl ?_
  refine ACode_ret ?_
  cases h
  exact ⟨_, _, fun r a w h => ⟨r, h⟩, _, _, [], _, (.cons (ResV_tmp _ _ rfl) (.cons (ResV_tmp _ _ rfl) .nil)), rfl, rfl, rfl, rfl, rfl⟩
 refine ACode_skip ?_
 refine kR ?_
 refine AOps_q 16 _ rfl rfl rfl (QOp_loadN_ptr _ _ _ _ _ _ _ rfl Tryz.isAgg96 Tryz.sizeOf96 rfl rfl (posD_all _) (posD_length _)) ?_
 obtain ⟨r3, hr3, h⟩ := bindO h
 refine kC [] 17 (iV r3) [.box (posD (⟨p0, p1⟩ : Pos))] rfl Tryz.call102 rfl rfl (impl_position_result_ac k (⟨p0, p1⟩ : Pos) _ hr3) rfl ?_
 refine kN 2 rfl ?_
 refine ACode_ret ?_
 cases h
 exact ⟨_, _, fun r a w h => ⟨r, h⟩, _, _, [], _, (.cons (ResV_tmp _ _ rfl) (.cons (ResV_tmp _ _ rfl) .nil)), rfl, rfl, rfl, rfl, rfl⟩

-- loop.example/g01362/impl.orders
def impl_orders_l0 (k : Nat) (self : Int → (List Int) → Option (List (List Int))) (p0 : Int) (p1 : List Int) : Nat → Int → (List (List Int)) → Option (List (List Int))
 | 0, _, _ => none
 | k0 + 1, x3, x4 => (if decide (x3 < p0) then ((slices_Contains k p1 x3).bind fun r6 => (if !r6 then (if p1.isEmpty then (if ([x3]).length ≤ 1099511627776 ∧ ([x3]).length ≠ 0 then (self p0 ([x3])).bind fun r11 => (if x4.length + r11.length ≤ 1099511627776 then some (x4 ++ r11) else none) else none) else (cloneA p1).bind fun r13 => (if r13.length + ([x3]).length ≤ 1099511627776 then (self p0 (r13 ++ ([x3]))).bind fun r15 => (if x4.length + r15.length ≤ 1099511627776 then some (x4 ++ r15) else none) else none)) else some x4) : Option (List (List Int))).bind fun s17 => impl_orders_l0 k self p0 p1 k0 (w64 (x3 + 1)) s17 else some x4)
def impl_orders_body (self : Int → (List Int) → Option (List (List Int))) (k : Nat) (p0 : Int) (p1 : List Int) : Option (List (List Int)) :=
 (if decide ((impl_size p1) = p0) then some ([p1]) else (impl_orders_l0 k self p0 p1 k 0 ([] : List (List Int)) : Option (List (List Int))).bind fun s18 => some s18)
def impl_orders : Nat → Int → (List Int) → Option (List (List Int))
 | 0, _, _ => none
 | k + 1, p0, p1 => impl_orders_body (impl_orders k) k p0 p1
set_option maxRecDepth 100000 in
theorem impl_orders_ac (k : Nat) (p0 : Int) (p1 : List Int) (r : List (List Int)) (h : impl_orders k p0 p1 = some r) : AC Tryz.prog 110 [iV p0, .d (.sl none (intsD p1))] [] (fun res H' => res = [.d (.sl none (rowsD r))] ∧ H' = []) := by
 induction k generalizing p0 p1 r with
 | zero => simp [impl_orders] at h
 | succ k ih =>
  rw [impl_orders] at h
  obtain ⟨self, hself, hk⟩ : ∃ self : Int → (List Int) → Option (List (List Int)), (∀ (p0 : Int) (p1 : List Int) (r : List (List Int)), self p0 p1 = some r → AC Tryz.prog 110 [iV p0, .d (.sl none (intsD p1))] [] (fun res H' => res = [.d (.sl none (rowsD r))] ∧ H' = [])) ∧ impl_orders k = self := ⟨impl_orders k, fun p0 p1 r h => ih p0 p1 r h, rfl⟩
  rw [hk] at h
  clear ih hk
  refine AC_of_body true Tryz.func110 rfl Tryz.ntmps110 (rvs := [.tmp 4]) rfl rfl (fun G hG => ?_)
  have hm : G.H.length = 0 := by rw [hG]; rfl
  have hz : zeroG G.H = true := by rw [hG]; rfl
  unfold impl_orders_body at h
  refine kR ?_
  refine kN 1 rfl ?_
  refine ACode_seq ?_
  refine kR ?_
  refine kM 1 rfl ?_
  refine kC [] 8 (iV (impl_size p1)) [] rfl Tryz.call63 rfl rfl (impl_size_ac p1) rfl ?_
  refine kM 1 rfl ?_
  refine AOps_q 10 _ rfl rfl rfl (QOp_eql _ _ _ _ _ _ _ rfl rfl rfl) ?_
  refine AOps_nil ?_
  refine kI h rfl (fun h _ => ?_) (fun h _ => ?_)
  ·refine kR ?_
   refine kM 1 rfl ?_
   refine AOps_buildSlice 12 _ _ _ [_] (rowsD ([p1])) _ rfl rfl rfl rfl rfl (by decide) Tryz.underlying90 Tryz.sizeOf27 (zero_of Tryz.typeInfo27 rfl) rfl rfl (rowsD_one _) ?_
   refine kN 1 rfl ?_
   refine ACode_ret ?_
   cases h
   exact ⟨_, _, fun r a w h => ⟨r, h⟩, _, _, [], _, (.cons (ResV_tmp _ _ rfl) .nil), rfl, rfl, rfl, rfl, rfl⟩
  refine ACode_skip ?_
  refine kR ?_
  refine AOps_buildSlice 13 _ _ _ [] (rowsD ([] : List (List Int))) _ rfl rfl rfl rfl rfl (by decide) Tryz.underlying90 Tryz.sizeOf27 (zero_of Tryz.typeInfo27 rfl) rfl rfl (rowsD_one _) ?_
  refine kN 1 rfl ?_
  refine kB (fun s18 => [(5, .vec 0 0)]) (fun s18 => [.vec 0 (rowsD s18)]) h (fun s18 h => ?_) (fun s18 h => ?_)
  ·refine kR ?_
   refine kN 2 rfl ?_
   refine ACode_block ?_
   refine ACode_loopW (fun k0 E H => ∃ (x3 : Int) (x4 : List (List Int)), E = [(0, iV p0), (1, .d (.sl none (intsD p1))), (5, .vec 0 0), (14, iV p0), (15, iV x3)] ∧ H = [.vec 0 (rowsD x4)] ∧ impl_orders_l0 k self p0 p1 k0 x3 x4 = some s18) k _ _ (Weak_keep 0 hm [0, 1, 5, 14, 15] [0] _ _ rfl rfl rfl) ⟨_, _, rfl, rfl, h⟩ ?_
   clear h
   rintro k0 E H ⟨x3, x4, rfl, rfl, h⟩
   cases k0 with
   | zero => cases (show (none : Option (List (List Int))) = some _ from h)
   | succ k0 =>
    rw [impl_orders_l0] at h
    refine kR ?_
    refine AOps_q 16 _ rfl rfl rfl (QOp_lss _ _ _ _ _ _ _ rfl rfl rfl) ?_
    refine AOps_nil ?_
    refine ACode_seq ?_
    refine kI h rfl (fun h _ => ?_) (fun h _ => ?_)
    ·refine ACode_skip ?_
     refine kB (fun s17 => [(0, iV p0), (1, .d (.sl none (intsD p1))), (5, .vec 0 0), (14, iV p0), (15, iV x3)]) (fun s17 => [.vec 0 (rowsD s17)]) h (fun s17 h => ?_) (fun s17 h => ?_)
     ·refine ACode_block ?_
      refine kR ?_
      refine kN 2 rfl ?_
      refine kR ?_
      refine kM 2 rfl ?_
      obtain ⟨r6, hr6, h⟩ := bindO h
      refine kC [] 20 (bV r6) [.vec 0 (rowsD x4)] rfl Tryz.call161 rfl rfl (slices_Contains_ac k p1 x3 _ hr6) rfl ?_
      refine AOps_q 21 _ rfl rfl rfl (QOp_not _ _ _ rfl rfl) ?_
      refine AOps_nil ?_
      refine kI h rfl (fun h _ => ?_) (fun h _ => ?_)
      ·refine (ACode_region ?_)
       refine kM 3 rfl ?_
       refine bsplit (p1.isEmpty) (fun hb8 => ?_) (fun hb8 => ?_)
       ·have h := iteT hb8 h
        refine kC [] 25 (.d (.se none)) [.vec 0 (rowsD x4)] rfl Tryz.call109 rfl rfl (cloneB_ac p1 hb8) rfl ?_
        refine kM 1 rfl ?_
        refine AOps_buildSlice 27 _ _ _ [_] (intsD ([x3])) _ rfl rfl rfl rfl rfl (by decide) Tryz.underlying27 Tryz.sizeOf2 (zero_of Tryz.typeInfo2 rfl) rfl rfl (intsD_one _) ?_
        obtain ⟨hc10, h⟩ := guardO h
        refine AOps_append0 28 _ _ _ _ _ _ _ _ _ _ rfl rfl rfl rfl rfl rfl rfl Tryz.underlying27 Tryz.type2 rfl rfl rfl (by decide) rfl rfl rfl (intsD_one _) (by rw [intsD_length]; exact hc10.1) (by rw [intsD_length]; exact hc10.2) ?_
        refine AOps_freezeL [28] 2 0 _ (allc (rfl) (fun _ h => nomatch h)) rfl ?_
        obtain ⟨r11, hr11, h⟩ := bindO h
        refine kC [] 29 (.d (.sl none (rowsD r11))) [.vec 0 (rowsD x4), .vec 0 (intsD ([x3])), .gone] rfl Tryz.call110 rfl rfl (hself p0 ([x3]) _ hr11) rfl ?_
        obtain ⟨hc12, h⟩ := guardO h
        refine AOps_append 30 _ _ _ _ _ _ _ _ _ _ _ _ rfl rfl rfl rfl rfl rfl rfl Tryz.underlying90 Tryz.type27 rfl rfl rfl (by decide) rfl rfl rfl rfl (rowsD_one _) (by rw [rowsD_length, rowsD_length]; exact hc12) ?_
        rw [rowsD_app]
        refine kN 1 rfl ?_
        cases h
        exact Weak_trans (Weak_keep 0 hm [0, 1, 5, 14, 15] [0] _ _ rfl rfl rfl) (Weak_reset 0 hm hz [0, 1, 5, 14, 15] _ _ rfl rfl)
       have h := iteF hb8 h
       obtain ⟨r13, hr13, h⟩ := bindO h
       refine kC [] 25 (.vec 1 0) [.vec 0 (rowsD x4), .vec 0 (intsD r13)] rfl Tryz.call109 rfl rfl (cloneA_ac p1 _ hb8 hr13) rfl ?_
       refine kM 1 rfl ?_
       refine AOps_buildSlice 27 _ _ _ [_] (intsD ([x3])) _ rfl rfl rfl rfl rfl (by decide) Tryz.underlying27 Tryz.sizeOf2 (zero_of Tryz.typeInfo2 rfl) rfl rfl (intsD_one _) ?_
       obtain ⟨hc14, h⟩ := guardO h
       refine AOps_append 28 _ _ _ _ _ _ _ _ _ _ _ _ rfl rfl rfl rfl rfl rfl rfl Tryz.underlying27 Tryz.type2 rfl rfl rfl (by decide) rfl rfl rfl rfl (intsD_one _) (by rw [intsD_length, intsD_length]; exact hc14) ?_
       rw [intsD_app]
       refine AOps_freezeL [28] 1 1 _ (allc (rfl) (fun _ h => nomatch h)) rfl ?_
       obtain ⟨r15, hr15, h⟩ := bindO h
       refine kC [] 29 (.d (.sl none (rowsD r15))) [.vec 0 (rowsD x4), .gone, .vec 0 (intsD ([x3]))] rfl Tryz.call110 rfl rfl (hself p0 (r13 ++ ([x3])) _ hr15) rfl ?_
       obtain ⟨hc16, h⟩ := guardO h
       refine AOps_append 30 _ _ _ _ _ _ _ _ _ _ _ _ rfl rfl rfl rfl rfl rfl rfl Tryz.underlying90 Tryz.type27 rfl rfl rfl (by decide) rfl rfl rfl rfl (rowsD_one _) (by rw [rowsD_length, rowsD_length]; exact hc16) ?_
       rw [rowsD_app]
       refine kN 1 rfl ?_
       cases h
       exact Weak_trans (Weak_keep 0 hm [0, 1, 5, 14, 15] [0] _ _ rfl rfl rfl) (Weak_reset 0 hm hz [0, 1, 5, 14, 15] _ _ rfl rfl)
      refine ACode_skip ?_
      cases h
      exact Weak_keep 0 hm [0, 1, 5, 14, 15] [0] _ _ rfl rfl rfl
     refine (ACode_region ?_)
     refine AOps_q 31 _ rfl rfl rfl (QOp_add _ _ _ _ _ _ _ rfl rfl rfl) ?_
     refine kN 1 rfl ?_
     exact ⟨k0, _, _, Nat.lt_succ_self _, Weak_keep 0 hm [0, 1, 5, 14, 15] [0] _ _ rfl rfl rfl, _, _, rfl, rfl, h⟩
    refine ACode_exit ?_
    cases h
    exact Weak_keep 0 hm [5] [0] _ _ rfl rfl rfl
  refine kR ?_
  refine kN 2 rfl ?_
  refine ACode_ret ?_
  cases h
  exact ⟨_, _, fun r a w h => ⟨r, h⟩, _, _, [], _, (.cons (ResV_tmp _ _ rfl) .nil), rfl, rfl, rfl, rfl, rfl⟩

-- (loop.example/g01362/impl.position).renumbered
def impl_position_renumbered_l1 (p0 : Pos) (p1 : List Int) (x2 : Int) : Nat → Int → (List Int) → Option (List Int)
 | 0, _, _ => none
 | k1 + 1, x5, x6 => (if decide (x5 < x2) then (if 0 ≤ x5 ∧ x5 < (p1.length : Int) then (if 0 ≤ x2 ∧ x2 < (p1.length : Int) then (if 0 ≤ (impl_number x5 x2) ∧ (impl_number x5 x2) < (p0.l.length : Int) then (if 0 ≤ (impl_number (p1.getD x5.toNat 0) (p1.getD x2.toNat 0)) ∧ (impl_number (p1.getD x5.toNat 0) (p1.getD x2.toNat 0)) < (x6.length : Int) then impl_position_renumbered_l1 p0 p1 x2 k1 (w64 (x5 + 1)) (x6.set (impl_number (p1.getD x5.toNat 0) (p1.getD x2.toNat 0)).toNat (p0.l.getD (impl_number x5 x2).toNat 0)) else none) else none) else none) else none) else some x6)
def impl_position_renumbered_l0 (k : Nat) (p0 : Pos) (p1 : List Int) : Nat → Int → (List Int) → Option (List Int)
 | 0, _, _ => none
 | k0 + 1, x2, x3 => (if decide (x2 < p0.n) then (impl_position_renumbered_l1 p0 p1 x2 k 0 x3 : Option (List Int)).bind fun s14 => impl_position_renumbered_l0 k p0 p1 k0 (w64 (x2 + 1)) s14 else some x3)
def impl_position_renumbered (k : Nat) (p0 : Pos) (p1 : List Int) : Option (List Int) :=
 (if 0 ≤ (p0.l.length : Int) ∧ (p0.l.length : Int) ≤ (p0.l.length : Int) ∧ (p0.l.length : Int) ≤ 1099511627776 then (impl_position_renumbered_l0 k p0 p1 k 0 (List.replicate (p0.l.length : Int).toNat (0 : Int)) : Option (List Int)).bind fun s15 => some s15 else none)
set_option maxRecDepth 100000 in
theorem impl_position_renumbered_ac (k : Nat) (p0 : Pos) (p1 : List Int) (r : List Int) (h : impl_position_renumbered k p0 p1 = some r) : AC Tryz.prog 111 [.d (.agg (posD p0)), .d (.sl none (intsD p1))] [] (fun res H' => res = [.vec 0 0] ∧ H' = [.vec 0 (intsD r)]) := by
 refine AC_of_body true Tryz.func111 rfl Tryz.ntmps111 (rvs := [.tmp 4]) rfl rfl (fun G hG => ?_)
 have hm : G.H.length = 0 := by rw [hG]; rfl
 have hz : zeroG G.H = true := by rw [hG]; rfl
 unfold impl_position_renumbered at h
 refine kR ?_
 refine AOps_boxI 2 _ _ (.agg (posD p0)) (posD p0) rfl (posD_one _) rfl rfl rfl rfl rfl ?_
 refine kN 1 rfl ?_
 refine kR ?_
 refine AOps_q 8 _ rfl rfl rfl (QOp_fieldAddr_pv _ _ _ _ _ 1 _ _ rfl Tryz.underlying96 rfl _ Tryz.sizeOf27 rfl rfl) ?_
 refine AOps_q 9 _ rfl rfl rfl (QOp_load_pv _ _ _ _ _ rfl Tryz.isAgg27 rfl rfl) ?_
 refine AOps_q 10 _ rfl rfl rfl (QOp_len_sl _ _ _ _ _ _ _ (intsD_length _) rfl rfl rfl rfl Tryz.underlying27 rfl) ?_
 obtain ⟨hc1, h⟩ := guardO h
 refine AOps_makeSliceG intsD iD 0 (intsD_rep · _) 11 _ _ _ _ _ _ (p0.l.length : Int) (p0.l.length : Int) _ (.int .i64 0) rfl rfl rfl rfl rfl rfl Tryz.underlying27 Tryz.type2 rfl rfl (by decide) rfl rfl hc1.1 hc1.2.1 hc1.2.2 ?_
 refine kN 1 rfl ?_
 refine kB (fun s15 => [(5, .vec 0 0)]) (fun s15 => [.vec 0 (intsD s15)]) h (fun s15 h => ?_) (fun s15 h => ?_)
 ·refine kR ?_
  refine AOps_q 12 _ rfl rfl rfl (QOp_fieldAddr_pv _ _ _ _ _ 0 _ _ rfl Tryz.underlying96 rfl _ Tryz.sizeOf2 rfl rfl) ?_
  refine AOps_q 13 _ rfl rfl rfl (QOp_load_pv _ _ _ _ _ rfl Tryz.isAgg2 rfl rfl) ?_
  refine kN 1 rfl ?_
  refine ACode_block ?_
  refine ACode_loopW (fun k0 E H => ∃ (x2 : Int) (x3 : List Int), E = [(1, .d (.sl none (intsD p1))), (2, .d (.pv (posD p0) 0)), (5, .vec 0 0), (13, iV p0.n), (14, iV x2)] ∧ H = [.vec 0 (intsD x3)] ∧ impl_position_renumbered_l0 k p0 p1 k0 x2 x3 = some s15) k _ _ (Weak_keep 0 hm [1, 2, 5, 13, 14] [0] _ _ rfl rfl rfl) ⟨_, _, rfl, rfl, h⟩ ?_
  clear h
  rintro k0 E H ⟨x2, x3, rfl, rfl, h⟩
  cases k0 with
  | zero => cases (show (none : Option (List Int)) = some _ from h)
  | succ k0 =>
   rw [impl_position_renumbered_l0] at h
   refine kR ?_
   refine AOps_q 15 _ rfl rfl rfl (QOp_lss _ _ _ _ _ _ _ rfl rfl rfl) ?_
   refine AOps_nil ?_
   refine ACode_seq ?_
   refine kI h rfl (fun h _ => ?_) (fun h _ => ?_)
   ·refine ACode_skip ?_
    refine kB (fun s14 => [(1, .d (.sl none (intsD p1))), (2, .d (.pv (posD p0) 0)), (5, .vec 0 0), (13, iV p0.n), (14, iV x2)]) (fun s14 => [.vec 0 (intsD s14)]) h (fun s14 h => ?_) (fun s14 h => ?_)
    ·refine ACode_block ?_
     refine kR ?_
     refine kN 2 rfl ?_
     refine kR ?_
     refine kN 2 rfl ?_
     refine ACode_block ?_
     refine ACode_loopW (fun k1 E H => ∃ (x5 : Int) (x6 : List Int), E = [(1, .d (.sl none (intsD p1))), (2, .d (.pv (posD p0) 0)), (5, .vec 0 0), (6, iV x2), (13, iV p0.n), (14, iV x2), (17, iV x2), (18, iV x5)] ∧ H = [.vec 0 (intsD x6)] ∧ impl_position_renumbered_l1 p0 p1 x2 k1 x5 x6 = some s14) k _ _ (Weak_keep 0 hm [1, 2, 5, 6, 13, 14, 17, 18] [0] _ _ rfl rfl rfl) ⟨_, _, rfl, rfl, h⟩ ?_
     clear h
     rintro k1 E H ⟨x5, x6, rfl, rfl, h⟩
     cases k1 with
     | zero => cases (show (none : Option (List Int)) = some _ from h)
     | succ k1 =>
      rw [impl_position_renumbered_l1] at h
      refine kR ?_
      refine AOps_q 19 _ rfl rfl rfl (QOp_lss _ _ _ _ _ _ _ rfl rfl rfl) ?_
      refine AOps_nil ?_
      refine ACode_seq ?_
      refine kI h rfl (fun h _ => ?_) (fun h _ => ?_)
      ·refine ACode_skip ?_
       refine ACode_seq ?_
       refine ACode_block ?_
       refine kR ?_
       refine kN 2 rfl ?_
       refine (ACode_last (l := [_, _, _, _, _, _, _, _, _, _, _, _, _, _, _, _, _, _]) mixed (by kernel_rfl) (by kernel_rfl) ?_)
       refine kQ 3 rfl ?_
       obtain ⟨hc8, h⟩ := guardO h
       refine AQ_q 24 _ rfl rfl rfl (QOp_indexAddr_sl _ _ _ _ _ _ _ _ rfl Tryz.underlying27 Tryz.sizeOf2 hc8.1 (by rw [intsD_length]; exact hc8.2) rfl rfl) ?_
       refine AQ_q 25 _ rfl rfl rfl (QOp_load_pv _ _ _ _ _ rfl Tryz.isAgg2 rfl (intsD_get _ _ 0 (by omega))) ?_
       refine kQ 2 rfl ?_
       obtain ⟨hc9, h⟩ := guardO h
       refine AQ_q 28 _ rfl rfl rfl (QOp_indexAddr_sl _ _ _ _ _ _ _ _ rfl Tryz.underlying27 Tryz.sizeOf2 hc9.1 (by rw [intsD_length]; exact hc9.2) rfl rfl) ?_
       refine AQ_q 29 _ rfl rfl rfl (QOp_load_pv _ _ _ _ _ rfl Tryz.isAgg2 rfl (intsD_get _ _ 0 (by omega))) ?_
       refine AQ_call 30 _ _ _ _ _ _ _ _ _ rfl rfl rfl rfl rfl rfl rfl Tryz.call162 rfl rfl rfl (impl_number_ac (p1.getD x5.toNat 0) (p1.getD x2.toNat 0)) ?_
       refine AQ_q 31 _ rfl rfl rfl (QOp_fieldAddr_pv _ _ _ _ _ 1 _ _ rfl Tryz.underlying96 rfl _ Tryz.sizeOf27 rfl rfl) ?_
       refine AQ_q 32 _ rfl rfl rfl (QOp_load_pv _ _ _ _ _ rfl Tryz.isAgg27 rfl rfl) ?_
       refine kQ 2 rfl ?_
       refine AQ_call 35 _ _ _ _ _ _ _ _ _ rfl rfl rfl rfl rfl rfl rfl Tryz.call162 rfl rfl rfl (impl_number_ac x5 x2) ?_
       obtain ⟨hc12, h⟩ := guardO h
       refine AQ_q 36 _ rfl rfl rfl (QOp_indexAddr_sl _ _ _ _ _ _ _ _ rfl Tryz.underlying27 Tryz.sizeOf2 hc12.1 (by rw [intsD_length]; exact hc12.2) rfl rfl) ?_
       refine AQ_q 37 _ rfl rfl rfl (QOp_load_pv _ _ _ _ _ rfl Tryz.isAgg2 rfl (intsD_get _ _ 0 (by omega))) ?_
       obtain ⟨hc13, h⟩ := guardO h
       refine AQ_q 38 _ rfl rfl rfl (QOp_indexAddr_vec _ _ _ _ _ _ _ _ _ rfl Tryz.underlying27 Tryz.sizeOf2 hc13.1 (by rw [intsD_length]; exact hc13.2) rfl rfl rfl) ?_
       refine AQ_nil ?_
       refine AOps_store_eptr _ _ _ _ _ _ (intsD x6) _ rfl rfl rfl rfl rfl rfl rfl Tryz.sizeOf2 (by rw [intsD_length]; omega) ?_
       rw [intsD_set]
       refine AOps_nil ?_
       refine (ACode_region ?_)
       refine AOps_q 39 _ rfl rfl rfl (QOp_add _ _ _ _ _ _ _ rfl rfl rfl) ?_
       refine kN 1 rfl ?_
       exact ⟨k1, _, _, Nat.lt_succ_self _, Weak_keep 0 hm [1, 2, 5, 6, 13, 14, 17, 18] [0] _ _ rfl rfl rfl, _, _, rfl, rfl, h⟩
      refine ACode_exit ?_
      cases h
      exact Weak_keep 0 hm [1, 2, 5, 13, 14] [0] _ _ rfl rfl rfl
    refine (ACode_region ?_)
    refine AOps_q 40 _ rfl rfl rfl (QOp_add _ _ _ _ _ _ _ rfl rfl rfl) ?_
    refine kN 1 rfl ?_
    exact ⟨k0, _, _, Nat.lt_succ_self _, Weak_keep 0 hm [1, 2, 5, 13, 14] [0] _ _ rfl rfl rfl, _, _, rfl, rfl, h⟩
   refine ACode_exit ?_
   cases h
   exact Weak_keep 0 hm [5] [0] _ _ rfl rfl rfl
 refine kR ?_
 refine kN 2 rfl ?_
 refine ACode_ret ?_
 cases h
 exact ⟨_, _, Weak_reset 0 hm hz [4] _ _ rfl rfl, _, _, [0], _, (.cons (ResV_tmp _ _ rfl) .nil), rfl, rfl, rfl, rfl, rfl⟩

-- cmp.isNaN[int64]
def cmp_isNaN (p0 : Int) : Bool :=
 !decide (p0 = p0)
set_option maxRecDepth 100000 in
theorem cmp_isNaN_ac (p0 : Int) : AC Tryz.prog 186 [iV p0] [] (fun res H' => res = [bV (cmp_isNaN p0)] ∧ H' = []) := by
 refine AC_of_body true Tryz.func186 rfl Tryz.ntmps186 (rvs := [.tmp 2]) rfl rfl (fun G hG => ?_)
 have hm : G.H.length = 0 := by rw [hG]; rfl
 have hz : zeroG G.H = true := by rw [hG]; rfl
 obtain ⟨r, h⟩ : ∃ r, cmp_isNaN p0 = r := ⟨_, rfl⟩
 rw [h]
 unfold cmp_isNaN at h
 refine kR ?_
 refine kN 1 rfl ?_
 refine kR ?_
 refine kM 2 rfl ?_
 refine AOps_q 5 _ rfl rfl rfl (QOp_neq _ _ _ _ _ _ _ rfl rfl rfl) ?_
 refine kN 1 rfl ?_
 refine ACode_ret ?_
 cases h
 exact ⟨_, _, fun r a w h => ⟨r, h⟩, _, _, [], _, (.cons (ResV_tmp _ _ rfl) .nil), rfl, rfl, rfl, rfl, rfl⟩

-- cmp.Compare[int64]
def cmp_Compare (p0 : Int) (p1 : Int) : Int :=
 (if (cmp_isNaN p0) then (if (cmp_isNaN p1) then 0 else (-1)) else (if (cmp_isNaN p1) then 1 else (if decide (p0 < p1) then (-1) else (if decide (p1 < p0) then 1 else 0))))
set_option maxRecDepth 100000 in
theorem cmp_Compare_ac (p0 : Int) (p1 : Int) : AC Tryz.prog 163 [iV p0, iV p1] [] (fun res H' => res = [iV (cmp_Compare p0 p1)] ∧ H' = []) := by
 refine AC_of_body true Tryz.func163 rfl Tryz.ntmps163 (rvs := [.tmp 4]) rfl rfl (fun G hG => ?_)
 have hm : G.H.length = 0 := by rw [hG]; rfl
 have hz : zeroG G.H = true := by rw [hG]; rfl
 obtain ⟨r, h⟩ : ∃ r, cmp_Compare p0 p1 = r := ⟨_, rfl⟩
 rw [h]
 unfold cmp_Compare at h
 refine kR ?_
 refine kN 1 rfl ?_
 refine kR ?_
 refine kM 1 rfl ?_
 refine kC [] 8 (bV (cmp_isNaN p0)) [] rfl Tryz.call186 rfl rfl (cmp_isNaN_ac p0) rfl ?_
 refine kN 1 rfl ?_
 refine kR ?_
 refine kM 1 rfl ?_
 refine kC [] 10 (bV (cmp_isNaN p1)) [] rfl Tryz.call186 rfl rfl (cmp_isNaN_ac p1) rfl ?_
 refine kN 1 rfl ?_
 refine ACode_seq ?_
 refine kR ?_
 refine kN 1 rfl ?_
 refine kI h rfl (fun h _ => ?_) (fun h _ => ?_)
 ·refine ACode_seq ?_
  refine kR ?_
  refine kN 1 rfl ?_
  refine kI h rfl (fun h _ => ?_) (fun h _ => ?_)
  ·refine kR ?_
   refine kN 1 rfl ?_
   refine ACode_ret ?_
   cases h
   exact ⟨_, _, fun r a w h => ⟨r, h⟩, _, _, [], _, (.cons (ResV_tmp _ _ rfl) .nil), rfl, rfl, rfl, rfl, rfl⟩
  refine ACode_skip ?_
  refine kR ?_
  refine kN 1 rfl ?_
  refine ACode_ret ?_
  cases h
  exact ⟨_, _, fun r a w h => ⟨r, h⟩, _, _, [], _, (.cons (ResV_tmp _ _ rfl) .nil), rfl, rfl, rfl, rfl, rfl⟩
 refine ACode_skip ?_
 refine ACode_seq ?_
 refine kR ?_
 refine kN 1 rfl ?_
 refine kI h rfl (fun h _ => ?_) (fun h _ => ?_)
 ·refine kR ?_
  refine kN 1 rfl ?_
  refine ACode_ret ?_
  cases h
  exact ⟨_, _, fun r a w h => ⟨r, h⟩, _, _, [], _, (.cons (ResV_tmp _ _ rfl) .nil), rfl, rfl, rfl, rfl, rfl⟩
 refine ACode_skip ?_
 refine ACode_seq ?_
 refine kR ?_
 refine kM 2 rfl ?_
 refine AOps_q 16 _ rfl rfl rfl (QOp_lss _ _ _ _ _ _ _ rfl rfl rfl) ?_
 refine AOps_nil ?_
 refine kI h rfl (fun h _ => ?_) (fun h _ => ?_)
 ·refine kR ?_
  refine kN 1 rfl ?_
  refine ACode_ret ?_
  cases h
  exact ⟨_, _, fun r a w h => ⟨r, h⟩, _, _, [], _, (.cons (ResV_tmp _ _ rfl) .nil), rfl, rfl, rfl, rfl, rfl⟩
 refine ACode_skip ?_
 refine ACode_seq ?_
 refine kR ?_
 refine kM 2 rfl ?_
 refine AOps_q 19 _ rfl rfl rfl (QOp_gtr _ _ _ _ _ _ _ rfl rfl rfl) ?_
 refine AOps_nil ?_
 refine kI h rfl (fun h _ => ?_) (fun h _ => ?_)
 ·refine kR ?_
  refine kN 1 rfl ?_
  refine ACode_ret ?_
  cases h
  exact ⟨_, _, fun r a w h => ⟨r, h⟩, _, _, [], _, (.cons (ResV_tmp _ _ rfl) .nil), rfl, rfl, rfl, rfl, rfl⟩
 refine ACode_skip ?_
 refine kR ?_
 refine kN 1 rfl ?_
 refine ACode_ret ?_
 cases h
 exact ⟨_, _, fun r a w h => ⟨r, h⟩, _, _, [], _, (.cons (ResV_tmp _ _ rfl) .nil), rfl, rfl, rfl, rfl, rfl⟩

-- slices.Compare[[]int64,int64]
def slices_Compare_l0 (p0 : List Int) (p1 : List Int) : Nat → Int → Option (Sum (Unit) (Int))
 | 0, _ => none
 | k0 + 1, x1 => (if decide (x1 < (p0.length : Int)) then (if 0 ≤ x1 ∧ x1 < (p0.length : Int) then (if decide ((p1.length : Int) ≤ x1) then some (.inr 1) else (if 0 ≤ x1 ∧ x1 < (p1.length : Int) then (if !decide ((cmp_Compare (p0.getD x1.toNat 0) (p1.getD x1.toNat 0)) = 0) then some (.inr (cmp_Compare (p0.getD x1.toNat 0) (p1.getD x1.toNat 0))) else slices_Compare_l0 p0 p1 k0 (w64 (x1 + 1))) else none)) else none) else some (.inl ()))
def slices_Compare (k : Nat) (p0 : List Int) (p1 : List Int) : Option (Int) :=
 (slices_Compare_l0 p0 p1 k 0 : Option (Sum (Unit) (Int))).bind fun os8 => (match os8 with | .inl s8 => (if decide ((p0.length : Int) < (p1.length : Int)) then some (-1) else some 0) | .inr rr => some rr)
set_option maxRecDepth 100000 in
theorem slices_Compare_ac (k : Nat) (p0 : List Int) (p1 : List Int) (r : Int) (h : slices_Compare k p0 p1 = some r) : AC Tryz.prog 112 [.d (.sl none (intsD p0)), .d (.sl none (intsD p1))] [] (fun res H' => res = [iV r] ∧ H' = []) := by
 refine AC_of_body true Tryz.func112 rfl Tryz.ntmps112 (rvs := [.tmp 4]) rfl rfl (fun G hG => ?_)
 have hm : G.H.length = 0 := by rw [hG]; rfl
 have hz : zeroG G.H = true := by rw [hG]; rfl
 unfold slices_Compare at h
 refine kR ?_
 refine kN 1 rfl ?_
 refine kO (fun s8 => [(0, .d (.sl none (intsD p0))), (1, .d (.sl none (intsD p1)))]) (fun s8 => []) h (fun os8 h hks8 => ?_) (fun s8 h => ?_)
 ·refine kR ?_
  refine kM 1 rfl ?_
  refine AOps_q 10 _ rfl rfl rfl (QOp_len_sl _ _ _ _ _ _ _ (intsD_length _) rfl rfl rfl rfl Tryz.underlying27 rfl) ?_
  refine kN 1 rfl ?_
  refine ACode_block ?_
  refine ACode_loopW (fun k0 E H => ∃ (x1 : Int), E = [(0, .d (.sl none (intsD p0))), (1, .d (.sl none (intsD p1))), (9, .d (.sl none (intsD p0))), (10, iV (p0.length : Int)), (11, iV x1)] ∧ H = [] ∧ slices_Compare_l0 p0 p1 k0 x1 = some os8) k _ _ (Weak_keep 0 hm [0, 1, 9, 10, 11] [] _ _ rfl rfl rfl) ⟨_, rfl, rfl, h⟩ ?_
  clear h
  rintro k0 E H ⟨x1, rfl, rfl, h⟩
  cases k0 with
  | zero => cases (show (none : Option (Sum (Unit) (Int))) = some _ from h)
  | succ k0 =>
   rw [slices_Compare_l0] at h
   refine kR ?_
   refine AOps_q 12 _ rfl rfl rfl (QOp_lss _ _ _ _ _ _ _ rfl rfl rfl) ?_
   refine AOps_nil ?_
   refine ACode_seq ?_
   refine kI h rfl (fun h _ => ?_) (fun h _ => ?_)
   ·refine ACode_skip ?_
    refine ACode_seq ?_
    refine ACode_block ?_
    refine kR ?_
    refine kM 1 rfl ?_
    obtain ⟨hc3, h⟩ := guardO h
    refine AOps_q 14 _ rfl rfl rfl (QOp_indexAddr_sl _ _ _ _ _ _ _ _ rfl Tryz.underlying27 Tryz.sizeOf2 hc3.1 (by rw [intsD_length]; exact hc3.2) rfl rfl) ?_
    refine AOps_q 15 _ rfl rfl rfl (QOp_load_pv _ _ _ _ _ rfl Tryz.isAgg2 rfl (intsD_get _ _ 0 (by omega))) ?_
    refine kN 2 rfl ?_
    refine ACode_seq ?_
    refine kR ?_
    refine kM 2 rfl ?_
    refine AOps_q 18 _ rfl rfl rfl (QOp_len_sl _ _ _ _ _ _ _ (intsD_length _) rfl rfl rfl rfl Tryz.underlying27 rfl) ?_
    refine AOps_q 19 _ rfl rfl rfl (QOp_geq _ _ _ _ _ _ _ rfl rfl rfl) ?_
    refine AOps_nil ?_
    refine kI h rfl (fun h _ => ?_) (fun h _ => ?_)
    ·refine kR ?_
     refine kN 1 rfl ?_
     refine ACode_ret ?_
     cases h
     have h := hks8
     cases h
     exact ⟨_, _, fun r a w h => ⟨r, h⟩, _, _, [], _, (.cons (ResV_tmp _ _ rfl) .nil), rfl, rfl, rfl, rfl, rfl⟩
    refine ACode_skip ?_
    refine kR ?_
    refine kM 2 rfl ?_
    obtain ⟨hc5, h⟩ := guardO h
    refine AOps_q 22 _ rfl rfl rfl (QOp_indexAddr_sl _ _ _ _ _ _ _ _ rfl Tryz.underlying27 Tryz.sizeOf2 hc5.1 (by rw [intsD_length]; exact hc5.2) rfl rfl) ?_
    refine AOps_q 23 _ rfl rfl rfl (QOp_load_pv _ _ _ _ _ rfl Tryz.isAgg2 rfl (intsD_get _ _ 0 (by omega))) ?_
    refine kN 1 rfl ?_
    refine kR ?_
    refine kM 2 rfl ?_
    refine kC [] 26 (iV (cmp_Compare (p0.getD x1.toNat 0) (p1.getD x1.toNat 0))) [] rfl Tryz.call163 rfl rfl (cmp_Compare_ac (p0.getD x1.toNat 0) (p1.getD x1.toNat 0)) rfl ?_
    refine kN 1 rfl ?_
    refine kR ?_
    refine kM 1 rfl ?_
    refine AOps_q 28 _ rfl rfl rfl (QOp_neq _ _ _ _ _ _ _ rfl rfl rfl) ?_
    refine AOps_nil ?_
    refine kI h rfl (fun h _ => ?_) (fun h _ => ?_)
    ·refine kR ?_
     refine kN 2 rfl ?_
     refine ACode_ret ?_
     cases h
     have h := hks8
     cases h
     exact ⟨_, _, fun r a w h => ⟨r, h⟩, _, _, [], _, (.cons (ResV_tmp _ _ rfl) .nil), rfl, rfl, rfl, rfl, rfl⟩
    refine ACode_skip ?_
    refine (ACode_region ?_)
    refine AOps_q 30 _ rfl rfl rfl (QOp_add _ _ _ _ _ _ _ rfl rfl rfl) ?_
    refine kN 1 rfl ?_
    exact ⟨k0, _, _, Nat.lt_succ_self _, Weak_keep 0 hm [0, 1, 9, 10, 11] [] _ _ rfl rfl rfl, _, rfl, rfl, h⟩
   refine ACode_exit ?_
   cases h
   exact ⟨_, rfl, Weak_keep 0 hm [0, 1] [] _ _ rfl rfl rfl⟩
 refine ACode_seq ?_
 refine kR ?_
 refine kM 1 rfl ?_
 refine AOps_q 32 _ rfl rfl rfl (QOp_len_sl _ _ _ _ _ _ _ (intsD_length _) rfl rfl rfl rfl Tryz.underlying27 rfl) ?_
 refine kM 1 rfl ?_
 refine AOps_q 34 _ rfl rfl rfl (QOp_len_sl _ _ _ _ _ _ _ (intsD_length _) rfl rfl rfl rfl Tryz.underlying27 rfl) ?_
 refine AOps_q 35 _ rfl rfl rfl (QOp_lss _ _ _ _ _ _ _ rfl rfl rfl) ?_
 refine AOps_nil ?_
 refine kI h rfl (fun h _ => ?_) (fun h _ => ?_)
 ·refine kR ?_
  refine kN 1 rfl ?_
  refine ACode_ret ?_
  cases h
  exact ⟨_, _, fun r a w h => ⟨r, h⟩, _, _, [], _, (.cons (ResV_tmp _ _ rfl) .nil), rfl, rfl, rfl, rfl, rfl⟩
 refine ACode_skip ?_
 refine kR ?_
 refine kN 1 rfl ?_
 refine ACode_ret ?_
 cases h
 exact ⟨_, _, fun r a w h => ⟨r, h⟩, _, _, [], _, (.cons (ResV_tmp _ _ rfl) .nil), rfl, rfl, rfl, rfl, rfl⟩

-- loop.example/g01362/impl.LeastPosition
def impl_LeastPosition_l0 (k : Nat) (p0 : Int) (p1 : List Int) (r5 : List (List Int)) : Nat → (List Int) → Int → Option (List Int)
 | 0, _, _ => none
 | k0 + 1, x6, x7 => (if decide (x7 < (r5.length : Int)) then ((if 0 ≤ x7 ∧ x7 < (r5.length : Int) then (impl_position_renumbered k (⟨p0, p1⟩ : Pos) (r5.getD x7.toNat [])).bind fun r10 => (slices_Compare k r10 x6).bind fun r11 => (if decide (r11 < 0) then some r10 else some x6) else none) : Option (List Int)).bind fun s13 => impl_LeastPosition_l0 k p0 p1 r5 k0 s13 (w64 (x7 + 1)) else some x6)
def impl_LeastPosition_l1 (k : Nat) (p0 : Int) (p1 : List Int) (r16 : List (List Int)) : Nat → Int → (List Int) → Option (List Int)
 | 0, _, _ => none
 | k1 + 1, x17, x18 => (if decide (x17 < (r16.length : Int)) then ((if 0 ≤ x17 ∧ x17 < (r16.length : Int) then (impl_position_renumbered k (⟨p0, p1⟩ : Pos) (r16.getD x17.toNat [])).bind fun r21 => (slices_Compare k r21 x18).bind fun r22 => (if decide (r22 < 0) then some r21 else some x18) else none) : Option (List Int)).bind fun s24 => impl_LeastPosition_l1 k p0 p1 r16 k1 (w64 (x17 + 1)) s24 else some x18)
def impl_LeastPosition (k : Nat) (p0 : Int) (p1 : List Int) : Option (List Int × Int) :=
 (impl_position_code k (⟨p0, p1⟩ : Pos) (some (impl_always))).bind fun r1 => (if !decide (r1 = 0) then some ([], r1) else (if p1.isEmpty then ((impl_orders k p0 ([])).bind fun r5 => impl_LeastPosition_l0 k p0 p1 r5 k ([]) 0 : Option (List Int)).bind fun s14 => some (s14, 0) else (cloneA p1).bind fun r15 => ((impl_orders k p0 ([])).bind fun r16 => impl_LeastPosition_l1 k p0 p1 r16 k 0 r15 : Option (List Int)).bind fun s25 => some (s25, 0)))
set_option maxRecDepth 100000 in
theorem impl_LeastPosition_ac (k : Nat) (p0 : Int) (p1 : List Int) (r : List Int × Int) (h : impl_LeastPosition k p0 p1 = some r) : AC Tryz.prog 51 [iV p0, .d (.sl none (intsD p1))] [] (fun res H' => res = [.d (.sl none (intsD r.1)), iV r.2] ∧ H' = []) := by
 refine AC_of_body true Tryz.func51 rfl Tryz.ntmps51 (rvs := [.tmp 4, .tmp 5]) rfl rfl (fun G hG => ?_)
 have hm : G.H.length = 0 := by rw [hG]; rfl
 have hz : zeroG G.H = true := by rw [hG]; rfl
 unfold impl_LeastPosition at h
 refine kR ?_
 refine kN 2 rfl ?_
 refine kR ?_
 refine kM 2 rfl ?_
 refine AOps_q 14 _ rfl rfl rfl (QOp_build _ _ [_, _] [0, 1] [iD p0, .sl none (intsD p1)] _ [iD 0, .sl (some true) []] (posD (⟨p0, p1⟩ : Pos)) [(0, 1), (1, 1)] rfl rfl Tryz.underlying96 (zero_of Tryz.typeInfo96 rfl) (fun w => by simp [Tryz.sizeOf2, Tryz.sizeOf27]) rfl (by rfl) (by rfl) (allc (ok1 rfl) (allc (ok1 rfl) (fun _ h => nomatch h)))) ?_
 refine AOps_alloc 6 _ _ ([iD 0, .sl (some true) []]) (zero_of Tryz.typeInfo96 rfl) (by rfl) rfl rfl rfl rfl ?_
 refine AOps_store _ _ _ _ _ _ (posD _) _ _ rfl rfl rfl rfl rfl rfl rfl (posD_one _) (by rw [posD_length]; exact Tryz.sizeOf96) (by show (2 : Nat) ≤ 2; decide) rfl ?_
 refine AOps_nil ?_
 refine ACode_seq ?_
 refine kR ?_
 refine AOps_q 15 _ rfl rfl rfl (QOp_loadN_ptr _ _ _ _ _ _ _ rfl Tryz.isAgg96 Tryz.sizeOf96 rfl rfl (posD_all _) (posD_length _)) ?_
 obtain ⟨r1, hr1, h⟩ := bindO h
 refine kC [] 16 (iV r1) [.box (posD (⟨p0, p1⟩ : Pos))] rfl Tryz.call97 rfl rfl (impl_position_code_ac k (⟨p0, p1⟩ : Pos) (some (impl_always)) 81 ([]) Tryz.call81 (fun r h => by cases h; exact impl_always_ac) _ hr1) rfl ?_
 refine kN 1 rfl ?_
 refine kR ?_
 refine kM 1 rfl ?_
 refine AOps_q 18 _ rfl rfl rfl (QOp_neq _ _ _ _ _ _ _ rfl rfl rfl) ?_
 refine AOps_nil ?_
 refine kI h rfl (fun h _ => ?_) (fun h _ => ?_)
 ·refine kR ?_
  refine kN 3 rfl ?_
  refine ACode_ret ?_
  cases h
  exact ⟨_, _, fun r a w h => ⟨r, h⟩, _, _, [], _, (.cons (ResV_tmp _ _ rfl) (.cons (ResV_tmp _ _ rfl) .nil)), rfl, rfl, rfl, rfl, rfl⟩
 refine ACode_skip ?_
 refine kR ?_
 refine kM 1 rfl ?_
 refine bsplit (p1.isEmpty) (fun hb3 => ?_) (fun hb3 => ?_)
 ·have h := iteT hb3 h
  refine kC [] 21 (.d (.se none)) [.box (posD (⟨p0, p1⟩ : Pos))] rfl Tryz.call109 rfl rfl (cloneB_ac p1 hb3) rfl ?_
  refine kN 1 rfl ?_
  refine kB (fun s14 => [(8, .d (.sl none (intsD s14)))]) (fun s14 => []) h (fun s14 h => ?_) (fun s14 h => ?_)
  ·refine kR ?_
   refine kM 1 rfl ?_
   obtain ⟨r5, hr5, h⟩ := bindO h
   refine kC [] 23 (.d (.sl none (rowsD r5))) [.box (posD (⟨p0, p1⟩ : Pos))] rfl Tryz.call110 rfl rfl (impl_orders_ac k p0 ([]) _ hr5) rfl ?_
   refine AOps_q 24 _ rfl rfl rfl (QOp_len_sl _ _ _ _ _ _ _ (rowsD_length _) rfl rfl rfl rfl Tryz.underlying90 rfl) ?_
   refine kN 1 rfl ?_
   refine ACode_block ?_
   refine ACode_loopW (fun k0 E H => ∃ (x6 : List Int) (x7 : Int), E = [(6, .ptr 0 0), (8, .d (.sl none (intsD x6))), (23, .d (.sl none (rowsD r5))), (24, iV (r5.length : Int)), (25, iV x7)] ∧ H = [.box (posD (⟨p0, p1⟩ : Pos))] ∧ impl_LeastPosition_l0 k p0 p1 r5 k0 x6 x7 = some s14) k _ _ (Weak_trans (Weak_se 8 _ rfl) (Weak_keep 0 hm [6, 8, 23, 24, 25] [0] _ _ rfl rfl rfl)) ⟨_, _, rfl, rfl, h⟩ ?_
   clear h
   rintro k0 E H ⟨x6, x7, rfl, rfl, h⟩
   cases k0 with
   | zero => cases (show (none : Option (List Int)) = some _ from h)
   | succ k0 =>
    rw [impl_LeastPosition_l0] at h
    refine kR ?_
    refine AOps_q 26 _ rfl rfl rfl (QOp_lss _ _ _ _ _ _ _ rfl rfl rfl) ?_
    refine AOps_nil ?_
    refine ACode_seq ?_
    refine kI h rfl (fun h _ => ?_) (fun h _ => ?_)
    ·refine ACode_skip ?_
     refine kB (fun s13 => [(6, .ptr 0 0), (8, .d (.sl none (intsD s13))), (23, .d (.sl none (rowsD r5))), (24, iV (r5.length : Int)), (25, iV x7)]) (fun s13 => [.box (posD (⟨p0, p1⟩ : Pos))]) h (fun s13 h => ?_) (fun s13 h => ?_)
     ·refine ACode_block ?_
      refine kR ?_
      obtain ⟨hc9, h⟩ := guardO h
      refine AOps_q 27 _ rfl rfl rfl (QOp_indexAddr_sl _ _ _ _ _ _ _ _ rfl Tryz.underlying90 Tryz.sizeOf27 hc9.1 (by rw [rowsD_length]; exact hc9.2) rfl rfl) ?_
      refine AOps_q 28 _ rfl rfl rfl (QOp_load_pv _ _ _ _ _ rfl Tryz.isAgg27 rfl (rowsD_get _ _ [] (by omega))) ?_
      refine kN 1 rfl ?_
      refine kR ?_
      refine AOps_q 29 _ rfl rfl rfl (QOp_loadN_ptr _ _ _ _ _ _ _ rfl Tryz.isAgg96 Tryz.sizeOf96 rfl rfl (posD_all _) (posD_length _)) ?_
      refine kM 1 rfl ?_
      obtain ⟨r10, hr10, h⟩ := bindO h
      refine kC [] 31 (.vec 1 0) [.box (posD (⟨p0, p1⟩ : Pos)), .vec 0 (intsD r10)] rfl Tryz.call111 rfl rfl (impl_position_renumbered_ac k (⟨p0, p1⟩ : Pos) (r5.getD x7.toNat []) _ hr10) rfl ?_
      refine kN 1 rfl ?_
      refine kR ?_
      refine kM 2 rfl ?_
      obtain ⟨r11, hr11, h⟩ := bindO h
      refine AOps_callL [] 34 _ _ _ _ _ _ _ _ _ _ rfl rfl rfl rfl rfl rfl rfl Tryz.call112 rfl (nodupB_sound _ rfl) rfl rfl rfl (slices_Compare_ac k r10 x6 _ hr11) ?_
      rintro _ _ ⟨rfl, rfl⟩
      refine ⟨(fun _ h => nomatch h), (allc (flat_s _) (fun _ h => nomatch h)), AOps_as 34 (v' := iV r11) (H' := [.box (posD (⟨p0, p1⟩ : Pos)), .vec 0 (intsD r10)]) rfl rfl ?_⟩
      refine AOps_q 35 _ rfl rfl rfl (QOp_lss _ _ _ _ _ _ _ rfl rfl rfl) ?_
      refine AOps_nil ?_
      refine kI h rfl (fun h _ => ?_) (fun h _ => ?_)
      ·refine (ACode_region ?_)
       refine kN 2 rfl ?_
       cases h
       exact Weak_trans (Weak_frz [8, 11, 31, 32, 36] [] 1 0 _ (allc (rfl) (allc (rfl) (allc (rfl) (allc (rfl) (allc (rfl) (fun _ h => nomatch h)))))) (fun _ h => nomatch h) rfl) (Weak_keep 0 hm [6, 8, 23, 24, 25] [0] _ _ rfl rfl rfl)
      refine ACode_skip ?_
      cases h
      exact Weak_keep 0 hm [6, 8, 23, 24, 25] [0] _ _ rfl rfl rfl
     refine (ACode_region ?_)
     refine AOps_q 37 _ rfl rfl rfl (QOp_add _ _ _ _ _ _ _ rfl rfl rfl) ?_
     refine kN 1 rfl ?_
     exact ⟨k0, _, _, Nat.lt_succ_self _, Weak_keep 0 hm [6, 8, 23, 24, 25] [0] _ _ rfl rfl rfl, _, _, rfl, rfl, h⟩
    refine ACode_exit ?_
    cases h
    exact Weak_keep 0 hm [8] [] _ _ rfl rfl rfl
  refine kR ?_
  refine kN 3 rfl ?_
  refine ACode_ret ?_
  cases h
  exact ⟨_, _, fun r a w h => ⟨r, h⟩, _, _, [], _, (.cons (ResV_tmp _ _ rfl) (.cons (ResV_tmp _ _ rfl) .nil)), rfl, rfl, rfl, rfl, rfl⟩
 have h := iteF hb3 h
 obtain ⟨r15, hr15, h⟩ := bindO h
 refine kC [] 21 (.vec 1 0) [.box (posD (⟨p0, p1⟩ : Pos)), .vec 0 (intsD r15)] rfl Tryz.call109 rfl rfl (cloneA_ac p1 _ hb3 hr15) rfl ?_
 refine kN 1 rfl ?_
 refine kB (fun s25 => [(8, .vec 0 0)]) (fun s25 => [.vec 0 (intsD s25)]) h (fun s25 h => ?_) (fun s25 h => ?_)
 ·refine kR ?_
  refine kM 1 rfl ?_
  obtain ⟨r16, hr16, h⟩ := bindO h
  refine kC [] 23 (.d (.sl none (rowsD r16))) [.box (posD (⟨p0, p1⟩ : Pos)), .vec 0 (intsD r15)] rfl Tryz.call110 rfl rfl (impl_orders_ac k p0 ([]) _ hr16) rfl ?_
  refine AOps_q 24 _ rfl rfl rfl (QOp_len_sl _ _ _ _ _ _ _ (rowsD_length _) rfl rfl rfl rfl Tryz.underlying90 rfl) ?_
  refine kN 1 rfl ?_
  refine ACode_block ?_
  refine ACode_loopW (fun k1 E H => ∃ (x17 : Int) (x18 : List Int), E = [(6, .ptr 0 0), (8, .vec 1 0), (23, .d (.sl none (rowsD r16))), (24, iV (r16.length : Int)), (25, iV x17)] ∧ H = [.box (posD (⟨p0, p1⟩ : Pos)), .vec 0 (intsD x18)] ∧ impl_LeastPosition_l1 k p0 p1 r16 k1 x17 x18 = some s25) k _ _ (Weak_keep 0 hm [6, 8, 23, 24, 25] [0, 1] _ _ rfl rfl rfl) ⟨_, _, rfl, rfl, h⟩ ?_
  clear h
  rintro k1 E H ⟨x17, x18, rfl, rfl, h⟩
  cases k1 with
  | zero => cases (show (none : Option (List Int)) = some _ from h)
  | succ k1 =>
   rw [impl_LeastPosition_l1] at h
   refine kR ?_
   refine AOps_q 26 _ rfl rfl rfl (QOp_lss _ _ _ _ _ _ _ rfl rfl rfl) ?_
   refine AOps_nil ?_
   refine ACode_seq ?_
   refine kI h rfl (fun h _ => ?_) (fun h _ => ?_)
   ·refine ACode_skip ?_
    refine kB (fun s24 => [(6, .ptr 0 0), (8, .vec 1 0), (23, .d (.sl none (rowsD r16))), (24, iV (r16.length : Int)), (25, iV x17)]) (fun s24 => [.box (posD (⟨p0, p1⟩ : Pos)), .vec 0 (intsD s24)]) h (fun s24 h => ?_) (fun s24 h => ?_)
    ·refine ACode_block ?_
     refine kR ?_
     obtain ⟨hc20, h⟩ := guardO h
     refine AOps_q 27 _ rfl rfl rfl (QOp_indexAddr_sl _ _ _ _ _ _ _ _ rfl Tryz.underlying90 Tryz.sizeOf27 hc20.1 (by rw [rowsD_length]; exact hc20.2) rfl rfl) ?_
     refine AOps_q 28 _ rfl rfl rfl (QOp_load_pv _ _ _ _ _ rfl Tryz.isAgg27 rfl (rowsD_get _ _ [] (by omega))) ?_
     refine kN 1 rfl ?_
     refine kR ?_
     refine AOps_q 29 _ rfl rfl rfl (QOp_loadN_ptr _ _ _ _ _ _ _ rfl Tryz.isAgg96 Tryz.sizeOf96 rfl rfl (posD_all _) (posD_length _)) ?_
     refine kM 1 rfl ?_
     obtain ⟨r21, hr21, h⟩ := bindO h
     refine kC [] 31 (.vec 2 0) [.box (posD (⟨p0, p1⟩ : Pos)), .vec 0 (intsD x18), .vec 0 (intsD r21)] rfl Tryz.call111 rfl rfl (impl_position_renumbered_ac k (⟨p0, p1⟩ : Pos) (r16.getD x17.toNat []) _ hr21) rfl ?_
     refine kN 1 rfl ?_
     refine kR ?_
     refine kM 2 rfl ?_
     obtain ⟨r22, hr22, h⟩ := bindO h
     refine AOps_callL [] 34 _ _ _ _ _ _ _ _ _ _ rfl rfl rfl rfl rfl rfl rfl Tryz.call112 rfl (nodupB_sound _ rfl) rfl rfl rfl (slices_Compare_ac k r21 x18 _ hr22) ?_
     rintro _ _ ⟨rfl, rfl⟩
     refine ⟨(fun _ h => nomatch h), (allc (flat_s _) (fun _ h => nomatch h)), AOps_as 34 (v' := iV r22) (H' := [.box (posD (⟨p0, p1⟩ : Pos)), .vec 0 (intsD x18), .vec 0 (intsD r21)]) rfl rfl ?_⟩
     refine AOps_q 35 _ rfl rfl rfl (QOp_lss _ _ _ _ _ _ _ rfl rfl rfl) ?_
     refine AOps_nil ?_
     refine kI h rfl (fun h _ => ?_) (fun h _ => ?_)
     ·refine (ACode_region ?_)
      refine kN 2 rfl ?_
      cases h
      exact Weak_keep 0 hm [6, 8, 23, 24, 25] [0, 2] _ _ rfl rfl rfl
     refine ACode_skip ?_
     cases h
     exact Weak_keep 0 hm [6, 8, 23, 24, 25] [0, 1] _ _ rfl rfl rfl
    refine (ACode_region ?_)
    refine AOps_q 37 _ rfl rfl rfl (QOp_add _ _ _ _ _ _ _ rfl rfl rfl) ?_
    refine kN 1 rfl ?_
    exact ⟨k1, _, _, Nat.lt_succ_self _, Weak_keep 0 hm [6, 8, 23, 24, 25] [0, 1] _ _ rfl rfl rfl, _, _, rfl, rfl, h⟩
   refine ACode_exit ?_
   cases h
   exact Weak_keep 0 hm [8] [1] _ _ rfl rfl rfl
 refine kR ?_
 refine kN 3 rfl ?_
 refine ACode_ret ?_
 cases h
 exact ⟨_, _, fun r a w h => ⟨r, h⟩, _, _, [], _, (.cons (ResV_tmp _ _ rfl) (.cons (ResV_tmp _ _ rfl) .nil)), rfl, rfl, rfl, rfl, rfl⟩

-- loop.example/g01362/spec.l01DrawOrder
def spec_l01DrawOrder_l0 (p1 : Int) : Nat → Int → Src → (List Int) → Option (Src × List Int)
 | 0, _, _, _ => none
 | k0 + 1, x1, x2, x3 => (if decide (x1 < p1) then (spec_l01Next x2 (w64 (x1 + 1))).bind fun r5 => (if 0 ≤ 0 ∧ 0 ≤ r5.1 ∧ r5.1 ≤ ((x3.length : Nat) : Int) then (if 0 ≤ r5.1 ∧ r5.1 ≤ ((x3.length : Nat) : Int) ∧ ((x3.length : Nat) : Int) ≤ ((x3.length : Nat) : Int) then (spec_l01Own ((x3.drop 0).take (r5.1.toNat - 0))).bind fun r10 => (if r10.length + ([x1]).length ≤ 1099511627776 then (if (r10 ++ ([x1])).length + ((x3.drop r5.1.toNat).take (x3.length - r5.1.toNat)).length ≤ 1099511627776 then spec_l01DrawOrder_l0 p1 k0 (w64 (x1 + 1)) r5.2 ((r10 ++ ([x1])) ++ ((x3.drop r5.1.toNat).take (x3.length - r5.1.toNat))) else none) else none) else none) else none) else some (x2, x3))
def spec_l01DrawOrder (k : Nat) (p0 : Src) (p1 : Int) : Option (List Int × Src) :=
 (spec_l01DrawOrder_l0 p1 k 0 p0 ([] : List Int) : Option (Src × List Int)).bind fun s13 => some (s13.2, s13.1)
set_option maxRecDepth 100000 in
theorem spec_l01DrawOrder_ac (k : Nat) (p0 : Src) (p1 : Int) (r : List Int × Src) (h : spec_l01DrawOrder k p0 p1 = some r) : AC Tryz.prog 114 [.ptr 0 0, iV p1] [.box (srcD p0)] (fun res H' => res = [.vec 1 0] ∧ H' = [.box (srcD r.2), .vec 0 (intsD r.1)]) := by
 refine AC_of_body true Tryz.func114 rfl Tryz.ntmps114 (rvs := [.tmp 4]) rfl rfl (fun G hG => ?_)
 have hm : G.H.length = 1 := by rw [hG]; rfl
 have hz : zeroG G.H = true := by rw [hG]; rfl
 unfold spec_l01DrawOrder at h
 refine kR ?_
 refine kN 1 rfl ?_
 refine kR ?_
 refine AOps_buildSlice 8 _ _ _ [] (intsD ([] : List Int)) _ rfl rfl rfl rfl rfl (by decide) Tryz.underlying27 Tryz.sizeOf2 (zero_of Tryz.typeInfo2 rfl) rfl rfl (intsD_one _) ?_
 refine kN 1 rfl ?_
 refine kB (fun s13 => [(5, .vec 1 0)]) (fun s13 => [.box (srcD s13.1), .vec 0 (intsD s13.2)]) h (fun s13 h => ?_) (fun s13 h => ?_)
 ·refine kR ?_
  refine kN 1 rfl ?_
  refine ACode_block ?_
  refine ACode_loopW (fun k0 E H => ∃ (x1 : Int) (x2 : Src) (x3 : List Int), E = [(0, .ptr 0 0), (1, iV p1), (5, .vec 1 0), (6, iV x1)] ∧ H = [.box (srcD x2), .vec 0 (intsD x3)] ∧ spec_l01DrawOrder_l0 p1 k0 x1 x2 x3 = some s13) k _ _ (Weak_keep 1 hm [0, 1, 5, 6] [1] _ _ rfl rfl rfl) ⟨_, _, _, rfl, rfl, h⟩ ?_
  clear h
  rintro k0 E H ⟨x1, x2, x3, rfl, rfl, h⟩
  cases k0 with
  | zero => cases (show (none : Option (Src × List Int)) = some _ from h)
  | succ k0 =>
   rw [spec_l01DrawOrder_l0] at h
   refine ACode_seq ?_
   refine kR ?_
   refine kM 2 rfl ?_
   refine AOps_q 11 _ rfl rfl rfl (QOp_lss _ _ _ _ _ _ _ rfl rfl rfl) ?_
   refine AOps_nil ?_
   refine kI h rfl (fun h _ => ?_) (fun h _ => ?_)
   ·refine ACode_skip ?_
    refine ACode_seq ?_
    refine ACode_block ?_
    refine kR ?_
    refine kM 2 rfl ?_
    refine AOps_q 16 _ rfl rfl rfl (QOp_add _ _ _ _ _ _ _ rfl rfl rfl) ?_
    obtain ⟨r5, hr5, h⟩ := bindO h
    refine kC [0] 17 (iV r5.1) [.box (srcD r5.2), .vec 0 (intsD x3)] rfl Tryz.call58 rfl rfl (spec_l01Next_ac x2 (w64 (x1 + 1)) _ hr5) rfl ?_
    refine kN 1 rfl ?_
    obtain ⟨hc7, h⟩ := guardO h
    obtain ⟨hc9, h⟩ := guardO h
    obtain ⟨r10, hr10, h⟩ := bindO h
    obtain ⟨hc11, h⟩ := guardO h
    obtain ⟨hc12, h⟩ := guardO h
    refine ACode_reg [(0, .ptr 0 0), (1, iV p1), (5, .vec 1 0), (6, iV x1)] [.box (srcD r5.2), .vec 0 (intsD ((r10 ++ ([x1])) ++ ((x3.drop r5.1.toNat).take (x3.length - r5.1.toNat))))] ?_ ?_
    ·refine ACode_anyU mixed ?_
     refine AU_cut 3 #[true, true, true, true, true, true, false, true, true, true, false, false] [(0, .ptr 0 0), (1, iV p1), (5, .vec 1 0), (6, iV x1), (21, .vec 2 0), (23, .vec 3 0), (27, .part 1 0 r5.1.toNat (x3.length - r5.1.toNat))] [.box (srcD r5.2), .vec 0 (intsD x3), .vec 0 (intsD r10), .vec 0 (intsD ([x1]))] ?_ (fun hS0 => ?_)
     ·refine AU_one 6 (by kernel_rfl) rfl rfl ?_
      refine AOps_append 24 _ _ _ _ _ _ _ _ _ _ _ _ rfl rfl rfl rfl rfl rfl rfl Tryz.underlying27 Tryz.type2 rfl rfl rfl (by decide) rfl rfl rfl rfl (intsD_one _) (by rw [intsD_length, intsD_length]; exact hc11) ?_
      rw [intsD_app]
      refine AOps_nil ?_
      refine AU_one 10 (by kernel_rfl) rfl rfl ?_
      refine AOps_append 28 _ _ _ _ _ _ _ _ _ _ _ _ rfl rfl rfl rfl rfl rfl rfl Tryz.underlying27 Tryz.type2 rfl rfl rfl (by decide) rfl rfl rfl rfl (by rw [← intsD_dt]; exact intsD_one _) (by rw [← intsD_dt, intsD_length, intsD_length]; exact hc12) ?_
      rw [← intsD_dt, intsD_app]
      refine AOps_nil ?_
      refine AU_u 11 5 _ rfl (by kernel_rfl) rfl rfl rfl (UOp_assign _ _ rfl rfl) ?_
      refine AU_done (by kernel_rfl) ?_
      exact ⟨rfl, Weak_trans (Weak_keep 1 hm [0, 1, 5, 6] [2] _ _ rfl rfl rfl) (Weak_reset 1 hm hz [0, 1, 5, 6] _ _ rfl rfl)⟩
     refine AU_u 0 18 _ rfl (by kernel_rfl) rfl rfl rfl (UOp_move _ _ rfl rfl) ?_
     refine AU_u 1 19 _ rfl (by kernel_rfl) rfl rfl rfl (UOp_move _ _ rfl rfl) ?_
     refine AU_u 2 20 _ rfl (by kernel_rfl) rfl rfl rfl (UOp_cut _ _ _ _ _ _ _ _ _ _ _ (0) (r5.1.toNat) rfl Tryz.underlying27 Tryz.sizeOf2 rfl rfl rfl rfl (by exact ⟨_, by rw [Int.toNat_of_nonneg (by omega)]; rfl⟩) (by omega) (by rw [intsD_length]; omega) _ (Nat.zero_add _) _ rfl) ?_
     refine AU_u 4 22 _ rfl (by kernel_rfl) rfl rfl rfl (UOp_move _ _ rfl rfl) ?_
     refine AU_u 7 25 _ rfl (by kernel_rfl) rfl rfl rfl (UOp_move _ _ rfl rfl) ?_
     refine AU_u 8 26 _ rfl (by kernel_rfl) rfl rfl rfl (UOp_move _ _ rfl rfl) ?_
     refine AU_u 9 27 _ rfl (by kernel_rfl) rfl rfl rfl (UOp_cut _ _ _ _ _ _ _ _ _ _ _ (r5.1.toNat) (x3.length) rfl Tryz.underlying27 Tryz.sizeOf2 rfl rfl rfl (by exact ⟨_, by rw [Int.toNat_of_nonneg (by omega)]; rfl⟩) (intsD_length _).symm (by omega) (by rw [intsD_length]; omega) _ (Nat.zero_add _) _ rfl) ?_
     refine AU_all [3, 5] (by kernel_rfl) rfl (allc ?_ (allc ?_ (fun _ h => nomatch h)))
     ·refine US_of 3 rfl rfl ?_
      refine AOps_callL [] 21 _ _ _ _ _ _ _ _ _ _ rfl rfl rfl rfl rfl rfl rfl Tryz.call122 rfl (nodupB_sound _ rfl) rfl rfl rfl (by have q := spec_l01Own_ac ((x3.drop 0).take (r5.1.toNat - 0)) _ hr10; simp only [intsD_dt] at q; exact q) ?_
      rintro _ _ ⟨rfl, rfl⟩
      refine ⟨(allc (intsD_flat _) (fun _ h => nomatch h)), (allc (trivial) (fun _ h => nomatch h)), AOps_as 21 (v' := .vec 2 0) (H' := [.box (srcD r5.2), .vec 0 (intsD x3), .vec 0 (intsD r10)]) rfl rfl ?_⟩
      refine AOps_nil ?_
      refine AU_one 5 (by kernel_rfl) rfl rfl ?_
      refine AOps_buildSlice 23 _ _ _ [_] (intsD ([x1])) _ rfl rfl rfl rfl rfl (by decide) Tryz.underlying27 Tryz.sizeOf2 (zero_of Tryz.typeInfo2 rfl) rfl rfl (intsD_one _) ?_
      refine AOps_nil ?_
      exact AU_to (by kernel_rfl) hS0 (Weak_keep 1 hm [0, 1, 5, 6, 21, 23, 27] [1, 2, 3] _ _ rfl rfl rfl)
     refine US_of 5 rfl rfl ?_
     refine AOps_buildSlice 23 _ _ _ [_] (intsD ([x1])) _ rfl rfl rfl rfl rfl (by decide) Tryz.underlying27 Tryz.sizeOf2 (zero_of Tryz.typeInfo2 rfl) rfl rfl (intsD_one _) ?_
     refine AOps_nil ?_
     refine AU_one 3 (by kernel_rfl) rfl rfl ?_
     refine AOps_callL [] 21 _ _ _ _ _ _ _ _ _ _ rfl rfl rfl rfl rfl rfl rfl Tryz.call122 rfl (nodupB_sound _ rfl) rfl rfl rfl (by have q := spec_l01Own_ac ((x3.drop 0).take (r5.1.toNat - 0)) _ hr10; simp only [intsD_dt] at q; exact q) ?_
     rintro _ _ ⟨rfl, rfl⟩
     refine ⟨(allc (intsD_flat _) (fun _ h => nomatch h)), (allc (trivial) (fun _ h => nomatch h)), AOps_as 21 (v' := .vec 3 0) (H' := [.box (srcD r5.2), .vec 0 (intsD x3), .vec 0 (intsD ([x1])), .vec 0 (intsD r10)]) rfl rfl ?_⟩
     refine AOps_nil ?_
     exact AU_to (by kernel_rfl) hS0 (Weak_keep 1 hm [0, 1, 5, 6, 21, 23, 27] [1, 3, 2] _ _ rfl rfl rfl)
    refine (ACode_region ?_)
    refine kM 1 rfl ?_
    refine AOps_q 13 _ rfl rfl rfl (QOp_add _ _ _ _ _ _ _ rfl rfl rfl) ?_
    refine kN 1 rfl ?_
    exact ⟨k0, _, _, Nat.lt_succ_self _, Weak_keep 1 hm [0, 1, 5, 6] [1] _ _ rfl rfl rfl, _, _, _, rfl, rfl, h⟩
   refine ACode_exit ?_
   cases h
   exact Weak_keep 1 hm [5] [1] _ _ rfl rfl rfl
 refine kR ?_
 refine kN 2 rfl ?_
 refine ACode_ret ?_
 cases h
 exact ⟨_, _, Weak_reset 1 hm hz [4] _ _ rfl rfl, _, _, [1], _, (.cons (ResV_tmp _ _ rfl) .nil), rfl, rfl, rfl, rfl, rfl⟩

-- loop.example/g01362/spec.DrawRenumberPosition
def spec_DrawRenumberPosition (k : Nat) (p0 : List UInt8) : Option (Int × List Int × List Int) :=
 (spec_l01From k p0).bind fun r1 => (spec_l09Draw k r1).bind fun r2 => (spec_l01DrawOrder k r2.2.2 r2.1).bind fun r3 => ((spec_l01Next r3.2 16).bind fun r4 => (if decide (r4.1 = 0) then (if r3.1.length + ([0]).length ≤ 1099511627776 then some (r4.2, (r3.1 ++ ([0]))) else none) else (if decide (r4.1 = 1) then (if 0 ≤ w64 ((r3.1.length : Int) - 1) ∧ w64 ((r3.1.length : Int) - 1) < (r3.1.length : Int) then (spec_l01Pick r4.2 ([(-1), r2.1, (r3.1.getD (w64 ((r3.1.length : Int) - 1)).toNat 0)])).bind fun r9 => (if 0 ≤ (0 : Int) ∧ (0 : Int) < (r3.1.length : Int) then some (r9.2, r3.1.set (0 : Int).toNat r9.1) else none) else none) else some (r4.2, r3.1))) : Option (Src × List Int)).bind fun s11 => (spec_l09Bad k s11.1 r2.1 r2.2.1).bind fun r12 => some (r12.1, r12.2.1, s11.2)
set_option maxRecDepth 100000 in
theorem spec_DrawRenumberPosition_ac (k : Nat) (p0 : List UInt8) (r : Int × List Int × List Int) (h : spec_DrawRenumberPosition k p0 = some r) : AC Tryz.prog 52 [.d (.sl none (bysD p0))] [] (fun res H' => res = [iV r.1, .vec 0 0, .vec 1 0] ∧ H' = [.vec 0 (intsD r.2.1), .vec 0 (intsD r.2.2)]) := by
 refine AC_of_body true Tryz.func52 rfl Tryz.ntmps52 (rvs := [.tmp 2, .tmp 3, .tmp 4]) rfl rfl (fun G hG => ?_)
 have hm : G.H.length = 0 := by rw [hG]; rfl
 have hz : zeroG G.H = true := by rw [hG]; rfl
 unfold spec_DrawRenumberPosition at h
 refine kR ?_
 refine kN 3 rfl ?_
 refine kR ?_
 refine kM 1 rfl ?_
 obtain ⟨r1, hr1, h⟩ := bindO h
 refine kC [] 10 (.ptr 0 0) [.box (srcD r1)] rfl Tryz.call57 rfl rfl (spec_l01From_ac k p0 _ hr1) rfl ?_
 refine kN 1 rfl ?_
 refine kR ?_
 refine kM 1 rfl ?_
 obtain ⟨r2, hr2, h⟩ := bindO h
 refine kC [0] 13 (.tup [iV r2.1, .vec 1 0]) [.box (srcD r2.2.2), .vec 0 (intsD r2.2.1)] rfl Tryz.call113 rfl rfl (spec_l09Draw_ac k r1 _ hr2) rfl ?_
 refine kN 5 rfl ?_
 refine kR ?_
 refine kM 2 rfl ?_
 obtain ⟨r3, hr3, h⟩ := bindO h
 refine kC [0] 18 (.vec 2 0) [.box (srcD r3.2), .vec 0 (intsD r2.2.1), .vec 0 (intsD r3.1)] rfl Tryz.call114 rfl rfl (spec_l01DrawOrder_ac k r2.2.2 r2.1 _ hr3) rfl ?_
 refine kN 1 rfl ?_
 refine kB (fun s11 => [(5, .ptr 0 0), (6, iV r2.1), (7, .vec 1 0), (8, .vec 2 0)]) (fun s11 => [.box (srcD s11.1), .vec 0 (intsD r2.2.1), .vec 0 (intsD s11.2)]) h (fun s11 h => ?_) (fun s11 h => ?_)
 ·refine kR ?_
  refine kM 1 rfl ?_
  obtain ⟨r4, hr4, h⟩ := bindO h
  refine kC [0] 20 (iV r4.1) [.box (srcD r4.2), .vec 0 (intsD r2.2.1), .vec 0 (intsD r3.1)] rfl Tryz.call58 rfl rfl (spec_l01Next_ac r3.2 16 _ hr4) rfl ?_
  refine AOps_nil ?_
  refine ACode_block ?_
  refine kR ?_
  refine AOps_q 22 _ rfl rfl rfl (QOp_eql _ _ _ _ _ _ _ rfl rfl rfl) ?_
  refine kN 1 rfl ?_
  refine kI h rfl (fun h _ => ?_) (fun h _ => ?_)
  ·refine (ACode_region ?_)
   refine kM 1 rfl ?_
   refine AOps_buildSlice 24 _ _ _ [_] (intsD ([0])) _ rfl rfl rfl rfl rfl (by decide) Tryz.underlying27 Tryz.sizeOf2 (zero_of Tryz.typeInfo2 rfl) rfl rfl (intsD_one _) ?_
   obtain ⟨hc6, h⟩ := guardO h
   refine AOps_append 25 _ _ _ _ _ _ _ _ _ _ _ _ rfl rfl rfl rfl rfl rfl rfl Tryz.underlying27 Tryz.type2 rfl rfl rfl (by decide) rfl rfl rfl rfl (intsD_one _) (by rw [intsD_length, intsD_length]; exact hc6) ?_
   rw [intsD_app]
   refine kN 1 rfl ?_
   cases h
   exact Weak_trans (Weak_keep 0 hm [5, 6, 7, 8] [0, 1, 2] _ _ rfl rfl rfl) (Weak_reset 0 hm hz [5, 6, 7, 8] _ _ rfl rfl)
  refine kR ?_
  refine AOps_q 27 _ rfl rfl rfl (QOp_eql _ _ _ _ _ _ _ rfl rfl rfl) ?_
  refine kN 1 rfl ?_
  refine kI h rfl (fun h _ => ?_) (fun h _ => ?_)
  ·refine (ACode_region ?_)
   refine kM 5 rfl ?_
   refine AOps_q 33 _ rfl rfl rfl (QOp_len_vec _ _ _ _ _ _ _ _ (intsD_length _) rfl rfl rfl rfl Tryz.underlying27 rfl rfl) ?_
   refine AOps_q 34 _ rfl rfl rfl (QOp_sub _ _ _ _ _ _ _ rfl rfl rfl) ?_
   obtain ⟨hc8, h⟩ := guardO h
   refine AOps_q 35 _ rfl rfl rfl (QOp_indexAddr_vec _ _ _ _ _ _ _ _ _ rfl Tryz.underlying27 Tryz.sizeOf2 hc8.1 (by rw [intsD_length]; exact hc8.2) rfl rfl rfl) ?_
   refine AOps_q 36 _ rfl rfl rfl (QOp_load_eptr _ _ _ _ _ _ _ rfl Tryz.isAgg2 rfl rfl (intsD_get _ _ 0 (by omega))) ?_
   refine AOps_buildSlice 37 _ _ _ [_, _, _] (intsD ([(-1), r2.1, (r3.1.getD (w64 ((r3.1.length : Int) - 1)).toNat 0)])) _ rfl rfl rfl rfl rfl (by decide) Tryz.underlying27 Tryz.sizeOf2 (zero_of Tryz.typeInfo2 rfl) rfl rfl (intsD_one _) ?_
   refine AOps_freezeL [37] 3 0 _ (allc (rfl) (fun _ h => nomatch h)) rfl ?_
   obtain ⟨r9, hr9, h⟩ := bindO h
   refine kC [0] 38 (iV r9.1) [.box (srcD r9.2), .vec 0 (intsD r2.2.1), .vec 0 (intsD r3.1), .gone] rfl Tryz.call62 rfl rfl (spec_l01Pick_ac r4.2 ([(-1), r2.1, (r3.1.getD (w64 ((r3.1.length : Int) - 1)).toNat 0)]) _ hr9) rfl ?_
   obtain ⟨hc10, h⟩ := guardO h
   refine AOps_q 39 _ rfl rfl rfl (QOp_indexAddr_vec _ _ _ _ _ _ _ _ _ rfl Tryz.underlying27 Tryz.sizeOf2 hc10.1 (by rw [intsD_length]; exact hc10.2) rfl rfl rfl) ?_
   refine AOps_store_eptr _ _ _ _ _ _ (intsD r3.1) _ rfl rfl rfl rfl rfl rfl rfl Tryz.sizeOf2 (by rw [intsD_length]; omega) ?_
   rw [intsD_set]
   refine AOps_nil ?_
   cases h
   exact Weak_keep 0 hm [5, 6, 7, 8] [0, 1, 2] _ _ rfl rfl rfl
  refine ACode_skip ?_
  cases h
  exact Weak_keep 0 hm [5, 6, 7, 8] [0, 1, 2] _ _ rfl rfl rfl
 refine kR ?_
 refine kM 3 rfl ?_
 refine AOps_freezeL [7, 43] 1 0 _ (allc (rfl) (allc (rfl) (fun _ h => nomatch h))) rfl ?_
 obtain ⟨r12, hr12, h⟩ := bindO h
 refine kC [0] 44 (.tup [iV r12.1, .vec 3 0]) [.box (srcD r12.2.2), .gone, .vec 0 (intsD s11.2), .vec 0 (intsD r12.2.1)] rfl Tryz.call115 rfl rfl (spec_l09Bad_ac k s11.1 r2.1 r2.2.1 _ hr12) rfl ?_
 refine kN 5 rfl ?_
 refine kR ?_
 refine kN 6 rfl ?_
 refine ACode_ret ?_
 cases h
 exact ⟨_, _, Weak_reset 0 hm hz [2, 3, 4] _ _ rfl rfl, _, _, [3, 2], _, (.cons (ResV_tmp _ _ rfl) (.cons (ResV_tmp _ _ rfl) (.cons (ResV_tmp _ _ rfl) .nil))), rfl, rfl, rfl, rfl, rfl⟩

-- loop.example/g01362/impl.isOrder
def impl_isOrder_l0 (r2 : List Int) : Nat → Int → Option (Sum (Unit) (Bool))
 | 0, _ => none
 | k0 + 1, x3 => (if decide (x3 < (r2.length : Int)) then (if 0 ≤ x3 ∧ x3 < (r2.length : Int) then (if !decide (x3 = (r2.getD x3.toNat 0)) then some (.inr false) else impl_isOrder_l0 r2 k0 (w64 (x3 + 1))) else none) else some (.inl ()))
def impl_isOrder (k : Nat) (p0 : List Int) (p1 : Int) : Option (Bool) :=
 ((sortedI p0).bind fun r2 => impl_isOrder_l0 r2 k 0 : Option (Sum (Unit) (Bool))).bind fun os7 => (match os7 with | .inl s7 => some (decide ((impl_size p0) = p1)) | .inr rr => some rr)
set_option maxRecDepth 100000 in
theorem impl_isOrder_ac (k : Nat) (p0 : List Int) (p1 : Int) (r : Bool) (h : impl_isOrder k p0 p1 = some r) : AC Tryz.prog 117 [.d (.sl none (intsD p0)), iV p1] [] (fun res H' => res = [bV r] ∧ H' = []) := by
 refine AC_of_body true Tryz.func117 rfl Tryz.ntmps117 (rvs := [.tmp 4]) rfl rfl (fun G hG => ?_)
 have hm : G.H.length = 0 := by rw [hG]; rfl
 have hz : zeroG G.H = true := by rw [hG]; rfl
 unfold impl_isOrder at h
 refine kR ?_
 refine kN 1 rfl ?_
 refine kO (fun s7 => [(0, .d (.sl none (intsD p0))), (1, iV p1)]) (fun s7 => []) h (fun os7 h hks7 => ?_) (fun s7 h => ?_)
 ·refine kR ?_
  refine kM 1 rfl ?_
  refine kC [] 8 (.d (.clo 129 [.pv ([.sl none (intsD p0)]) 0])) [] rfl Tryz.call67 rfl rfl (values_ac p0) rfl ?_
  obtain ⟨r2, hr2, h⟩ := bindO h
  refine kC [] 9 (.d (.sl none (intsD r2))) [] rfl Tryz.call66 rfl rfl (sorted_ac p0 _ hr2) rfl ?_
  refine AOps_q 10 _ rfl rfl rfl (QOp_len_sl _ _ _ _ _ _ _ (intsD_length _) rfl rfl rfl rfl Tryz.underlying27 rfl) ?_
  refine kN 1 rfl ?_
  refine ACode_block ?_
  refine ACode_loopW (fun k0 E H => ∃ (x3 : Int), E = [(0, .d (.sl none (intsD p0))), (1, iV p1), (9, .d (.sl none (intsD r2))), (10, iV (r2.length : Int)), (11, iV x3)] ∧ H = [] ∧ impl_isOrder_l0 r2 k0 x3 = some os7) k _ _ (Weak_keep 0 hm [0, 1, 9, 10, 11] [] _ _ rfl rfl rfl) ⟨_, rfl, rfl, h⟩ ?_
  clear h
  rintro k0 E H ⟨x3, rfl, rfl, h⟩
  cases k0 with
  | zero => cases (show (none : Option (Sum (Unit) (Bool))) = some _ from h)
  | succ k0 =>
   rw [impl_isOrder_l0] at h
   refine kR ?_
   refine AOps_q 12 _ rfl rfl rfl (QOp_lss _ _ _ _ _ _ _ rfl rfl rfl) ?_
   refine AOps_nil ?_
   refine ACode_seq ?_
   refine kI h rfl (fun h _ => ?_) (fun h _ => ?_)
   ·refine ACode_skip ?_
    refine ACode_seq ?_
    refine ACode_block ?_
    refine kR ?_
    refine kM 1 rfl ?_
    obtain ⟨hc5, h⟩ := guardO h
    refine AOps_q 14 _ rfl rfl rfl (QOp_indexAddr_sl _ _ _ _ _ _ _ _ rfl Tryz.underlying27 Tryz.sizeOf2 hc5.1 (by rw [intsD_length]; exact hc5.2) rfl rfl) ?_
    refine AOps_q 15 _ rfl rfl rfl (QOp_load_pv _ _ _ _ _ rfl Tryz.isAgg2 rfl (intsD_get _ _ 0 (by omega))) ?_
    refine kN 2 rfl ?_
    refine kR ?_
    refine kM 2 rfl ?_
    refine AOps_q 18 _ rfl rfl rfl (QOp_neq _ _ _ _ _ _ _ rfl rfl rfl) ?_
    refine AOps_nil ?_
    refine kI h rfl (fun h _ => ?_) (fun h _ => ?_)
    ·refine kR ?_
     refine kN 1 rfl ?_
     refine ACode_ret ?_
     cases h
     have h := hks7
     cases h
     exact ⟨_, _, fun r a w h => ⟨r, h⟩, _, _, [], _, (.cons (ResV_tmp _ _ rfl) .nil), rfl, rfl, rfl, rfl, rfl⟩
    refine ACode_skip ?_
    refine (ACode_region ?_)
    refine AOps_q 19 _ rfl rfl rfl (QOp_add _ _ _ _ _ _ _ rfl rfl rfl) ?_
    refine kN 1 rfl ?_
    exact ⟨k0, _, _, Nat.lt_succ_self _, Weak_keep 0 hm [0, 1, 9, 10, 11] [] _ _ rfl rfl rfl, _, rfl, rfl, h⟩
   refine ACode_exit ?_
   cases h
   exact ⟨_, rfl, Weak_keep 0 hm [0, 1] [] _ _ rfl rfl rfl⟩
 refine kR ?_
 refine kM 1 rfl ?_
 refine kC [] 21 (iV (impl_size p0)) [] rfl Tryz.call63 rfl rfl (impl_size_ac p0) rfl ?_
 refine kM 1 rfl ?_
 refine AOps_q 23 _ rfl rfl rfl (QOp_eql _ _ _ _ _ _ _ rfl rfl rfl) ?_
 refine kN 1 rfl ?_
 refine ACode_ret ?_
 cases h
 exact ⟨_, _, fun r a w h => ⟨r, h⟩, _, _, [], _, (.cons (ResV_tmp _ _ rfl) .nil), rfl, rfl, rfl, rfl, rfl⟩

-- loop.example/g01362/impl.RenumberPosition$1
def impl_RenumberPosition_c1 (k : Nat) (p0 : List Int) (p1 : Int) : Option (Bool) :=
 (impl_isOrder k p0 p1).bind fun r1 => some r1
set_option maxRecDepth 100000 in
theorem impl_RenumberPosition_c1_ac (k : Nat) (p0 : List Int) (p1 : Int) (r : Bool) (h : impl_RenumberPosition_c1 k p0 p1 = some r) : AC Tryz.prog 116 [.d (.pv ([.sl none (intsD p0)]) 0), .d (.pv ([iD p1]) 0)] [] (fun res H' => res = [bV r] ∧ H' = []) := by
 refine AC_of_body true Tryz.func116 rfl Tryz.ntmps116 (rvs := [.tmp 2]) rfl rfl (fun G hG => ?_)
 have hm : G.H.length = 0 := by rw [hG]; rfl
 have hz : zeroG G.H = true := by rw [hG]; rfl
 unfold impl_RenumberPosition_c1 at h
 refine kR ?_
 refine kN 1 rfl ?_
 refine kR ?_
 refine AOps_q 3 _ rfl rfl rfl (QOp_load_pv _ _ _ _ _ rfl Tryz.isAgg27 rfl rfl) ?_
 refine AOps_q 4 _ rfl rfl rfl (QOp_load_pv _ _ _ _ _ rfl Tryz.isAgg2 rfl rfl) ?_
 obtain ⟨r1, hr1, h⟩ := bindO h
 refine kC [] 5 (bV r1) [] rfl Tryz.call117 rfl rfl (impl_isOrder_ac k p0 p1 _ hr1) rfl ?_
 refine kN 1 rfl ?_
 refine ACode_ret ?_
 cases h
 exact ⟨_, _, fun r a w h => ⟨r, h⟩, _, _, [], _, (.cons (ResV_tmp _ _ rfl) .nil), rfl, rfl, rfl, rfl, rfl⟩

-- loop.example/g01362/impl.RenumberPosition
def impl_RenumberPosition (k : Nat) (p0 : Int) (p1 : List Int) (p2 : List Int) : Option (Option (List Int) × Int) :=
 (impl_position_code k (⟨p0, p1⟩ : Pos) (impl_RenumberPosition_c1 k p2 p0)).bind fun r1 => (if !decide (r1 = 0) then some (none, r1) else (impl_position_renumbered k (⟨p0, p1⟩ : Pos) p2).bind fun r3 => some (some r3, 0))
set_option maxRecDepth 100000 in
theorem impl_RenumberPosition_ac (k : Nat) (p0 : Int) (p1 : List Int) (p2 : List Int) (r : Option (List Int) × Int) (h : impl_RenumberPosition k p0 p1 p2 = some r) : AC Tryz.prog 53 [iV p0, .d (.sl none (intsD p1)), .d (.sl none (intsD p2))] [] (fun res H' => res = [ownA 0 (r.1.map intsD), iV r.2] ∧ H' = [] ++ ownH (r.1.map intsD)) := by
 refine AC_of_body false Tryz.func53 rfl Tryz.ntmps53 (rvs := [.tmp 6, .tmp 7]) rfl rfl (fun G hG => ?_)
 have hm : G.H.length = 0 := by rw [hG]; rfl
 have hz : zeroG G.H = true := by rw [hG]; rfl
 unfold impl_RenumberPosition at h
 refine kR ?_
 refine AOps_boxI 3 _ _ (iD p0) _ rfl (fun c hc => by cases hc with | head => rfl | tail _ h => cases h) rfl rfl rfl rfl rfl ?_
 refine AOps_boxI 5 _ _ (.sl none (intsD p2)) _ rfl (fun c hc => by cases hc with | head => rfl | tail _ h => cases h) rfl rfl rfl rfl rfl ?_
 refine kN 2 rfl ?_
 refine kR ?_
 refine AOps_q 10 _ rfl rfl rfl (QOp_load_pv _ _ _ _ _ rfl Tryz.isAgg2 rfl rfl) ?_
 refine kM 1 rfl ?_
 refine AOps_q 12 _ rfl rfl rfl (QOp_build _ _ [_, _] [0, 1] [iD p0, .sl none (intsD p1)] _ [iD 0, .sl (some true) []] (posD (⟨p0, p1⟩ : Pos)) [(0, 1), (1, 1)] rfl rfl Tryz.underlying96 (zero_of Tryz.typeInfo96 rfl) (fun w => by simp [Tryz.sizeOf2, Tryz.sizeOf27]) rfl (by rfl) (by rfl) (allc (ok1 rfl) (allc (ok1 rfl) (fun _ h => nomatch h)))) ?_
 refine AOps_alloc 8 _ _ ([iD 0, .sl (some true) []]) (zero_of Tryz.typeInfo96 rfl) (by rfl) rfl rfl rfl rfl ?_
 refine AOps_store _ _ _ _ _ _ (posD _) _ _ rfl rfl rfl rfl rfl rfl rfl (posD_one _) (by rw [posD_length]; exact Tryz.sizeOf96) (by show (2 : Nat) ≤ 2; decide) rfl ?_
 refine AOps_nil ?_
 refine ACode_seq ?_
 refine kR ?_
 refine AOps_q 13 _ rfl rfl rfl (QOp_loadN_ptr _ _ _ _ _ _ _ rfl Tryz.isAgg96 Tryz.sizeOf96 rfl rfl (posD_all _) (posD_length _)) ?_
 refine AOps_q 14 _ rfl rfl rfl (QOp_makeFuncD _ _ _ _ rfl rfl rfl) ?_
 obtain ⟨r1, hr1, h⟩ := bindO h
 refine kC [] 15 (iV r1) [.box (posD (⟨p0, p1⟩ : Pos))] rfl Tryz.call97 rfl rfl (impl_position_code_ac k (⟨p0, p1⟩ : Pos) (impl_RenumberPosition_c1 k p2 p0) 116 ([.pv ([.sl none (intsD p2)]) 0, .pv ([iD p0]) 0]) Tryz.call116 (fun r h => impl_RenumberPosition_c1_ac k p2 p0 r h) _ hr1) rfl ?_
 refine kN 1 rfl ?_
 refine kR ?_
 refine kM 1 rfl ?_
 refine AOps_q 17 _ rfl rfl rfl (QOp_neq _ _ _ _ _ _ _ rfl rfl rfl) ?_
 refine AOps_nil ?_
 refine kI h rfl (fun h _ => ?_) (fun h _ => ?_)
 ·refine kR ?_
  refine kN 3 rfl ?_
  refine ACode_ret ?_
  cases h
  exact ⟨_, _, fun r a w h => ⟨r, h⟩, _, _, [], _, (.cons (ResV_tmp _ _ rfl) (.cons (ResV_tmp _ _ rfl) .nil)), rfl, rfl, rfl, rfl, rfl⟩
 refine ACode_skip ?_
 refine kR ?_
 refine AOps_q 19 _ rfl rfl rfl (QOp_loadN_ptr _ _ _ _ _ _ _ rfl Tryz.isAgg96 Tryz.sizeOf96 rfl rfl (posD_all _) (posD_length _)) ?_
 refine AOps_q 20 _ rfl rfl rfl (QOp_load_pv _ _ _ _ _ rfl Tryz.isAgg27 rfl rfl) ?_
 obtain ⟨r3, hr3, h⟩ := bindO h
 refine kC [] 21 (.vec 1 0) [.box (posD (⟨p0, p1⟩ : Pos)), .vec 0 (intsD r3)] rfl Tryz.call111 rfl rfl (impl_position_renumbered_ac k (⟨p0, p1⟩ : Pos) p2 _ hr3) rfl ?_
 refine kN 2 rfl ?_
 refine ACode_ret ?_
 cases h
 exact ⟨_, _, Weak_reset 0 hm hz [6, 7] _ _ rfl rfl, _, _, [1], _, (.cons (ResV_tmp _ _ rfl) (.cons (ResV_tmp _ _ rfl) .nil)), rfl, rfl, rfl, rfl, rfl⟩

-- loop.example/g01362/spec.l01Order
def spec_l01Order_l0 (p0 : List Int) (p1 : Int) : Nat → Int → (List Bool) → Option (Sum (Unit) (Bool))
 | 0, _, _ => none
 | k0 + 1, x2, x3 => (if decide (x2 < (p0.length : Int)) then ((((if 0 ≤ x2 ∧ x2 < (p0.length : Int) then (if !(spec_l01In (p0.getD x2.toNat 0) 0 (w64 (p1 - 1))) then some true else (if 0 ≤ x2 ∧ x2 < (p0.length : Int) then (if 0 ≤ (p0.getD x2.toNat 0) ∧ (p0.getD x2.toNat 0) < (x3.length : Int) then some (x3.getD (p0.getD x2.toNat 0).toNat false) else none) else none)) else none) : Option (Bool)).bind fun s10 => (if s10 then ((some (.inr false)).bind fun rr => some (.inr rr)).bind fun rr => some (.inr rr) else some (.inl ())) : Option (Sum (Unit) (Sum (Unit) (Sum (Unit) (Bool))))).bind fun os12 => (match os12 with | .inl s12 => (if 0 ≤ x2 ∧ x2 < (p0.length : Int) then (if 0 ≤ (p0.getD x2.toNat 0) ∧ (p0.getD x2.toNat 0) < (x3.length : Int) then some (.inl ()) else none) else none) | .inr rr => some rr) : Option (Sum (Unit) (Sum (Unit) (Bool)))).bind fun os15 => (match os15 with | .inl s15 => spec_l01Order_l0 p0 p1 k0 (w64 (x2 + 1)) (x3.set (p0.getD x2.toNat 0).toNat true) | .inr rr => some rr) else some (.inl ()))
def spec_l01Order (k : Nat) (p0 : List Int) (p1 : Int) : Option (Bool) :=
 (if 0 ≤ p1 ∧ p1 ≤ p1 ∧ p1 ≤ 1099511627776 then (spec_l01Order_l0 p0 p1 k 0 (List.replicate p1.toNat (false : Bool)) : Option (Sum (Unit) (Bool))).bind fun os16 => (match os16 with | .inl s16 => some (decide ((p0.length : Int) = p1)) | .inr rr => some rr) else none)
set_option maxRecDepth 100000 in
theorem spec_l01Order_ac (k : Nat) (p0 : List Int) (p1 : Int) (r : Bool) (h : spec_l01Order k p0 p1 = some r) : AC Tryz.prog 119 [.d (.sl none (intsD p0)), iV p1] [] (fun res H' => res = [bV r] ∧ H' = []) := by
 refine AC_of_body true Tryz.func119 rfl Tryz.ntmps119 (rvs := [.tmp 4]) rfl rfl (fun G hG => ?_)
 have hm : G.H.length = 0 := by rw [hG]; rfl
 have hz : zeroG G.H = true := by rw [hG]; rfl
 unfold spec_l01Order at h
 refine kR ?_
 refine kN 1 rfl ?_
 refine kR ?_
 refine kM 1 rfl ?_
 obtain ⟨hc1, h⟩ := guardO h
 refine AOps_makeSliceG bosD bD false (bosD_rep · _) 8 _ _ _ _ _ _ p1 p1 _ (.bool false) rfl rfl rfl rfl rfl rfl Tryz.underlying138 Tryz.type4 rfl rfl (by decide) rfl rfl hc1.1 hc1.2.1 hc1.2.2 ?_
 refine kN 1 rfl ?_
 refine kO (fun s16 => [(0, .d (.sl none (intsD p0))), (1, iV p1)]) (fun s16 => []) h (fun os16 h hks16 => ?_) (fun s16 h => ?_)
 ·refine kR ?_
  refine kN 1 rfl ?_
  refine ACode_block ?_
  refine ACode_loopW (fun k0 E H => ∃ (x2 : Int) (x3 : List Bool), E = [(0, .d (.sl none (intsD p0))), (1, iV p1), (5, .vec 0 0), (6, iV x2)] ∧ H = [.vec 0 (bosD x3)] ∧ spec_l01Order_l0 p0 p1 k0 x2 x3 = some os16) k _ _ (Weak_keep 0 hm [0, 1, 5, 6] [0] _ _ rfl rfl rfl) ⟨_, _, rfl, rfl, h⟩ ?_
  clear h
  rintro k0 E H ⟨x2, x3, rfl, rfl, h⟩
  cases k0 with
  | zero => cases (show (none : Option (Sum (Unit) (Bool))) = some _ from h)
  | succ k0 =>
   rw [spec_l01Order_l0] at h
   refine ACode_seq ?_
   refine kR ?_
   refine kM 2 rfl ?_
   refine AOps_q 11 _ rfl rfl rfl (QOp_len_sl _ _ _ _ _ _ _ (intsD_length _) rfl rfl rfl rfl Tryz.underlying27 rfl) ?_
   refine AOps_q 12 _ rfl rfl rfl (QOp_lss _ _ _ _ _ _ _ rfl rfl rfl) ?_
   refine AOps_nil ?_
   refine kI h rfl (fun h _ => ?_) (fun h _ => ?_)
   ·refine ACode_skip ?_
    refine kO (fun s15 => [(0, .d (.sl none (intsD p0))), (1, iV p1), (5, .vec 0 0), (6, iV x2)]) (fun s15 => [.vec 0 (bosD (x3.set (p0.getD x2.toNat 0).toNat true))]) h (fun os15 h hks15 => ?_) (fun s15 h => ?_)
    ·refine ACode_block ?_
     refine kO (fun s12 => [(0, .d (.sl none (intsD p0))), (1, iV p1), (5, .vec 0 0), (6, iV x2)]) (fun s12 => [.vec 0 (bosD x3)]) h (fun os12 h hks12 => ?_) (fun s12 h => ?_)
     ·refine kB (fun s10 => [(0, .d (.sl none (intsD p0))), (1, iV p1), (5, .vec 0 0), (6, iV x2), (31, bV s10)]) (fun s10 => [.vec 0 (bosD x3)]) h (fun s10 h => ?_) (fun s10 h => ?_)
      ·refine (ACode_region ?_)
       refine kM 2 rfl ?_
       obtain ⟨hc5, h⟩ := guardO h
       refine AOps_q 17 _ rfl rfl rfl (QOp_indexAddr_sl _ _ _ _ _ _ _ _ rfl Tryz.underlying27 Tryz.sizeOf2 hc5.1 (by rw [intsD_length]; exact hc5.2) rfl rfl) ?_
       refine AOps_q 18 _ rfl rfl rfl (QOp_load_pv _ _ _ _ _ rfl Tryz.isAgg2 rfl (intsD_get _ _ 0 (by omega))) ?_
       refine kM 1 rfl ?_
       refine AOps_q 20 _ rfl rfl rfl (QOp_sub _ _ _ _ _ _ _ rfl rfl rfl) ?_
       refine kC [] 21 (bV (spec_l01In (p0.getD x2.toNat 0) 0 (w64 (p1 - 1)))) [.vec 0 (bosD x3)] rfl Tryz.call61 rfl rfl (spec_l01In_ac (p0.getD x2.toNat 0) 0 (w64 (p1 - 1))) rfl ?_
       refine AOps_q 22 _ rfl rfl rfl (QOp_not _ _ _ rfl rfl) ?_
       refine kM 1 rfl ?_
       refine AOps_case 23 _ rfl (fun hb7 => ?_) (fun hb7 => ?_)
       ·have h := iteT hb7 h
        refine AOps_skip 24 rfl rfl rfl ?_
        refine AOps_skip 25 rfl rfl rfl ?_
        refine AOps_skip 26 rfl rfl rfl ?_
        refine AOps_skip 27 rfl rfl rfl ?_
        refine AOps_skip 28 rfl rfl rfl ?_
        refine AOps_skip 29 rfl rfl rfl ?_
        refine AOps_skip 30 rfl rfl rfl ?_
        refine kN 1 rfl ?_
        cases h
        exact Weak_keep 0 hm [0, 1, 5, 6, 31] [0] _ _ rfl rfl rfl
       have h := iteF hb7 h
       refine kM 3 rfl ?_
       obtain ⟨hc8, h⟩ := guardO h
       refine AOps_q 27 _ rfl rfl rfl (QOp_indexAddr_sl _ _ _ _ _ _ _ _ rfl Tryz.underlying27 Tryz.sizeOf2 hc8.1 (by rw [intsD_length]; exact hc8.2) rfl rfl) ?_
       refine AOps_q 28 _ rfl rfl rfl (QOp_load_pv _ _ _ _ _ rfl Tryz.isAgg2 rfl (intsD_get _ _ 0 (by omega))) ?_
       obtain ⟨hc9, h⟩ := guardO h
       refine AOps_q 29 _ rfl rfl rfl (QOp_indexAddr_vec _ _ _ _ _ _ _ _ _ rfl Tryz.underlying138 Tryz.sizeOf4 hc9.1 (by rw [bosD_length]; exact hc9.2) rfl rfl rfl) ?_
       refine AOps_q 30 _ rfl rfl rfl (QOp_load_eptr _ _ _ _ _ _ _ rfl Tryz.isAgg4 rfl rfl (bosD_get _ _ false (by omega))) ?_
       refine kN 1 rfl ?_
       cases h
       exact Weak_keep 0 hm [0, 1, 5, 6, 31] [0] _ _ rfl rfl rfl
      refine kI h rfl (fun h _ => ?_) (fun h _ => ?_)
      ·refine kR ?_
       refine kN 1 rfl ?_
       refine ACode_ret ?_
       obtain ⟨rr, hz18, h2⟩ := bindO h
       obtain rfl := Option.some.inj h2
       obtain rfl := Option.some.inj (show some rr = some _ from hks12)
       have h := hz18
       obtain ⟨rr, hz17, h2⟩ := bindO h
       obtain rfl := Option.some.inj h2
       obtain rfl := Option.some.inj (show some rr = some _ from hks15)
       have h := hz17
       cases h
       have h := hks16
       cases h
       exact ⟨_, _, fun r a w h => ⟨r, h⟩, _, _, [], _, (.cons (ResV_tmp _ _ rfl) .nil), rfl, rfl, rfl, rfl, rfl⟩
      refine ACode_skip ?_
      cases h
      exact ⟨_, rfl, Weak_keep 0 hm [0, 1, 5, 6] [0] _ _ rfl rfl rfl⟩
     refine (ACode_region ?_)
     refine kM 3 rfl ?_
     obtain ⟨hc13, h⟩ := guardO h
     refine AOps_q 35 _ rfl rfl rfl (QOp_indexAddr_sl _ _ _ _ _ _ _ _ rfl Tryz.underlying27 Tryz.sizeOf2 hc13.1 (by rw [intsD_length]; exact hc13.2) rfl rfl) ?_
     refine AOps_q 36 _ rfl rfl rfl (QOp_load_pv _ _ _ _ _ rfl Tryz.isAgg2 rfl (intsD_get _ _ 0 (by omega))) ?_
     obtain ⟨hc14, h⟩ := guardO h
     refine AOps_q 37 _ rfl rfl rfl (QOp_indexAddr_vec _ _ _ _ _ _ _ _ _ rfl Tryz.underlying138 Tryz.sizeOf4 hc14.1 (by rw [bosD_length]; exact hc14.2) rfl rfl rfl) ?_
     refine AOps_store_eptr _ _ _ _ _ _ (bosD x3) _ rfl rfl rfl rfl rfl rfl rfl Tryz.sizeOf4 (by rw [bosD_length]; omega) ?_
     rw [bosD_set]
     refine AOps_nil ?_
     cases h
     exact ⟨_, rfl, Weak_keep 0 hm [0, 1, 5, 6] [0] _ _ rfl rfl rfl⟩
    refine (ACode_region ?_)
    refine kM 1 rfl ?_
    refine AOps_q 14 _ rfl rfl rfl (QOp_add _ _ _ _ _ _ _ rfl rfl rfl) ?_
    refine kN 1 rfl ?_
    exact ⟨k0, _, _, Nat.lt_succ_self _, Weak_keep 0 hm [0, 1, 5, 6] [0] _ _ rfl rfl rfl, _, _, rfl, rfl, h⟩
   refine ACode_exit ?_
   cases h
   exact ⟨_, rfl, Weak_keep 0 hm [0, 1] [] _ _ rfl rfl rfl⟩
 refine kR ?_
 refine kM 1 rfl ?_
 refine AOps_q 39 _ rfl rfl rfl (QOp_len_sl _ _ _ _ _ _ _ (intsD_length _) rfl rfl rfl rfl Tryz.underlying27 rfl) ?_
 refine kM 1 rfl ?_
 refine AOps_q 41 _ rfl rfl rfl (QOp_eql _ _ _ _ _ _ _ rfl rfl rfl) ?_
 refine kN 1 rfl ?_
 refine ACode_ret ?_
 cases h
 exact ⟨_, _, fun r a w h => ⟨r, h⟩, _, _, [], _, (.cons (ResV_tmp _ _ rfl) .nil), rfl, rfl, rfl, rfl, rfl⟩

-- loop.example/g01362/spec.l09Renumbered
def spec_l09Renumbered_l1 (p1 : List Int) (p2 : List Int) (x2 : Int) : Nat → Int → (List Int) → Option (List Int)
 | 0, _, _ => none
 | k1 + 1, x5, x6 => (if decide (x5 < x2) then (if 0 ≤ x5 ∧ x5 < (p2.length : Int) then (if 0 ≤ x2 ∧ x2 < (p2.length : Int) then (if 0 ≤ (spec_l01Edge x5 x2) ∧ (spec_l01Edge x5 x2) < (p1.length : Int) then (if 0 ≤ (spec_l01Edge (p2.getD x5.toNat 0) (p2.getD x2.toNat 0)) ∧ (spec_l01Edge (p2.getD x5.toNat 0) (p2.getD x2.toNat 0)) < (x6.length : Int) then spec_l09Renumbered_l1 p1 p2 x2 k1 (w64 (x5 + 1)) (x6.set (spec_l01Edge (p2.getD x5.toNat 0) (p2.getD x2.toNat 0)).toNat (p1.getD (spec_l01Edge x5 x2).toNat 0)) else none) else none) else none) else none) else some x6)
def spec_l09Renumbered_l0 (k : Nat) (p0 : Int) (p1 : List Int) (p2 : List Int) : Nat → Int → (List Int) → Option (List Int)
 | 0, _, _ => none
 | k0 + 1, x2, x3 => (if decide (x2 < p0) then (spec_l09Renumbered_l1 p1 p2 x2 k 0 x3 : Option (List Int)).bind fun s14 => spec_l09Renumbered_l0 k p0 p1 p2 k0 (w64 (x2 + 1)) s14 else some x3)
def spec_l09Renumbered (k : Nat) (p0 : Int) (p1 : List Int) (p2 : List Int) : Option (List Int) :=
 (spec_l01Own p1).bind fun r1 => (spec_l09Renumbered_l0 k p0 p1 p2 k 1 r1 : Option (List Int)).bind fun s15 => some s15
set_option maxRecDepth 100000 in
theorem spec_l09Renumbered_ac (k : Nat) (p0 : Int) (p1 : List Int) (p2 : List Int) (r : List Int) (h : spec_l09Renumbered k p0 p1 p2 = some r) : AC Tryz.prog 120 [iV p0, .d (.sl none (intsD p1)), .d (.sl none (intsD p2))] [] (fun res H' => res = [.vec 0 0] ∧ H' = [.vec 0 (intsD r)]) := by
 refine AC_of_body true Tryz.func120 rfl Tryz.ntmps120 (rvs := [.tmp 6]) rfl rfl (fun G hG => ?_)
 have hm : G.H.length = 0 := by rw [hG]; rfl
 have hz : zeroG G.H = true := by rw [hG]; rfl
 unfold spec_l09Renumbered at h
 refine kR ?_
 refine kN 1 rfl ?_
 refine kR ?_
 refine kM 1 rfl ?_
 obtain ⟨r1, hr1, h⟩ := bindO h
 refine kC [] 11 (.vec 0 0) [.vec 0 (intsD r1)] rfl Tryz.call122 rfl rfl (spec_l01Own_ac p1 _ hr1) rfl ?_
 refine kN 1 rfl ?_
 refine kB (fun s15 => [(7, .vec 0 0)]) (fun s15 => [.vec 0 (intsD s15)]) h (fun s15 h => ?_) (fun s15 h => ?_)
 ·refine kR ?_
  refine kN 1 rfl ?_
  refine ACode_block ?_
  refine ACode_loopW (fun k0 E H => ∃ (x2 : Int) (x3 : List Int), E = [(0, iV p0), (1, .d (.sl none (intsD p1))), (2, .d (.sl none (intsD p2))), (7, .vec 0 0), (8, iV x2)] ∧ H = [.vec 0 (intsD x3)] ∧ spec_l09Renumbered_l0 k p0 p1 p2 k0 x2 x3 = some s15) k _ _ (Weak_keep 0 hm [0, 1, 2, 7, 8] [0] _ _ rfl rfl rfl) ⟨_, _, rfl, rfl, h⟩ ?_
  clear h
  rintro k0 E H ⟨x2, x3, rfl, rfl, h⟩
  cases k0 with
  | zero => cases (show (none : Option (List Int)) = some _ from h)
  | succ k0 =>
   rw [spec_l09Renumbered_l0] at h
   refine ACode_seq ?_
   refine kR ?_
   refine kM 2 rfl ?_
   refine AOps_q 14 _ rfl rfl rfl (QOp_lss _ _ _ _ _ _ _ rfl rfl rfl) ?_
   refine AOps_nil ?_
   refine kI h rfl (fun h _ => ?_) (fun h _ => ?_)
   ·refine ACode_skip ?_
    refine kB (fun s14 => [(0, iV p0), (1, .d (.sl none (intsD p1))), (2, .d (.sl none (intsD p2))), (7, .vec 0 0), (8, iV x2)]) (fun s14 => [.vec 0 (intsD s14)]) h (fun s14 h => ?_) (fun s14 h => ?_)
    ·refine ACode_block ?_
     refine kR ?_
     refine kN 1 rfl ?_
     refine ACode_block ?_
     refine ACode_loopW (fun k1 E H => ∃ (x5 : Int) (x6 : List Int), E = [(0, iV p0), (1, .d (.sl none (intsD p1))), (2, .d (.sl none (intsD p2))), (7, .vec 0 0), (8, iV x2), (9, iV x5)] ∧ H = [.vec 0 (intsD x6)] ∧ spec_l09Renumbered_l1 p1 p2 x2 k1 x5 x6 = some s14) k _ _ (Weak_keep 0 hm [0, 1, 2, 7, 8, 9] [0] _ _ rfl rfl rfl) ⟨_, _, rfl, rfl, h⟩ ?_
     clear h
     rintro k1 E H ⟨x5, x6, rfl, rfl, h⟩
     cases k1 with
     | zero => cases (show (none : Option (List Int)) = some _ from h)
     | succ k1 =>
      rw [spec_l09Renumbered_l1] at h
      refine ACode_seq ?_
      refine kR ?_
      refine kM 2 rfl ?_
      refine AOps_q 19 _ rfl rfl rfl (QOp_lss _ _ _ _ _ _ _ rfl rfl rfl) ?_
      refine AOps_nil ?_
      refine kI h rfl (fun h _ => ?_) (fun h _ => ?_)
      ·refine ACode_skip ?_
       refine ACode_seq ?_
       refine ACode_block ?_
       refine (ACode_last (l := [_, _, _, _, _, _, _, _, _, _, _, _, _, _, _, _, _]) mixed (by kernel_rfl) (by kernel_rfl) ?_)
       refine kQ 3 rfl ?_
       obtain ⟨hc8, h⟩ := guardO h
       refine AQ_q 25 _ rfl rfl rfl (QOp_indexAddr_sl _ _ _ _ _ _ _ _ rfl Tryz.underlying27 Tryz.sizeOf2 hc8.1 (by rw [intsD_length]; exact hc8.2) rfl rfl) ?_
       refine AQ_q 26 _ rfl rfl rfl (QOp_load_pv _ _ _ _ _ rfl Tryz.isAgg2 rfl (intsD_get _ _ 0 (by omega))) ?_
       refine kQ 2 rfl ?_
       obtain ⟨hc9, h⟩ := guardO h
       refine AQ_q 29 _ rfl rfl rfl (QOp_indexAddr_sl _ _ _ _ _ _ _ _ rfl Tryz.underlying27 Tryz.sizeOf2 hc9.1 (by rw [intsD_length]; exact hc9.2) rfl rfl) ?_
       refine AQ_q 30 _ rfl rfl rfl (QOp_load_pv _ _ _ _ _ rfl Tryz.isAgg2 rfl (intsD_get _ _ 0 (by omega))) ?_
       refine AQ_call 31 _ _ _ _ _ _ _ _ _ rfl rfl rfl rfl rfl rfl rfl Tryz.call79 rfl rfl rfl (spec_l01Edge_ac (p2.getD x5.toNat 0) (p2.getD x2.toNat 0)) ?_
       refine kQ 3 rfl ?_
       refine AQ_call 35 _ _ _ _ _ _ _ _ _ rfl rfl rfl rfl rfl rfl rfl Tryz.call79 rfl rfl rfl (spec_l01Edge_ac x5 x2) ?_
       obtain ⟨hc12, h⟩ := guardO h
       refine AQ_q 36 _ rfl rfl rfl (QOp_indexAddr_sl _ _ _ _ _ _ _ _ rfl Tryz.underlying27 Tryz.sizeOf2 hc12.1 (by rw [intsD_length]; exact hc12.2) rfl rfl) ?_
       refine AQ_q 37 _ rfl rfl rfl (QOp_load_pv _ _ _ _ _ rfl Tryz.isAgg2 rfl (intsD_get _ _ 0 (by omega))) ?_
       obtain ⟨hc13, h⟩ := guardO h
       refine AQ_q 38 _ rfl rfl rfl (QOp_indexAddr_vec _ _ _ _ _ _ _ _ _ rfl Tryz.underlying27 Tryz.sizeOf2 hc13.1 (by rw [intsD_length]; exact hc13.2) rfl rfl rfl) ?_
       refine AQ_nil ?_
       refine AOps_store_eptr _ _ _ _ _ _ (intsD x6) _ rfl rfl rfl rfl rfl rfl rfl Tryz.sizeOf2 (by rw [intsD_length]; omega) ?_
       rw [intsD_set]
       refine AOps_nil ?_
       refine (ACode_region ?_)
       refine kM 1 rfl ?_
       refine AOps_q 21 _ rfl rfl rfl (QOp_add _ _ _ _ _ _ _ rfl rfl rfl) ?_
       refine kN 1 rfl ?_
       exact ⟨k1, _, _, Nat.lt_succ_self _, Weak_keep 0 hm [0, 1, 2, 7, 8, 9] [0] _ _ rfl rfl rfl, _, _, rfl, rfl, h⟩
      refine ACode_exit ?_
      cases h
      exact Weak_keep 0 hm [0, 1, 2, 7, 8] [0] _ _ rfl rfl rfl
    refine (ACode_region ?_)
    refine kM 1 rfl ?_
    refine AOps_q 16 _ rfl rfl rfl (QOp_add _ _ _ _ _ _ _ rfl rfl rfl) ?_
    refine kN 1 rfl ?_
    exact ⟨k0, _, _, Nat.lt_succ_self _, Weak_keep 0 hm [0, 1, 2, 7, 8] [0] _ _ rfl rfl rfl, _, _, rfl, rfl, h⟩
   refine ACode_exit ?_
   cases h
   exact Weak_keep 0 hm [7] [0] _ _ rfl rfl rfl
 refine kR ?_
 refine kN 2 rfl ?_
 refine ACode_ret ?_
 cases h
 exact ⟨_, _, Weak_reset 0 hm hz [6] _ _ rfl rfl, _, _, [0], _, (.cons (ResV_tmp _ _ rfl) .nil), rfl, rfl, rfl, rfl, rfl⟩

-- loop.example/g01362/spec.RenumberPosition
def spec_RenumberPosition (k : Nat) (p0 : Int) (p1 : List Int) (p2 : List Int) : Option (List Int × Int) :=
 (spec_l09Lists k p0 p1).bind fun r1 => (((if decide (r1 = 0) then (spec_l01Order k p2 p0).bind fun r3 => some (!r3) else some false) : Option (Bool)).bind fun s4 => (if s4 then some 2 else some r1) : Option (Int)).bind fun s6 => ((if decide (s6 = 0) then (spec_l09Code k p0 p1).bind fun r8 => some r8 else some s6) : Option (Int)).bind fun s9 => (if !decide (s9 = 0) then some ([], s9) else (spec_l09Renumbered k p0 p1 p2).bind fun r11 => some (r11, 0))
set_option maxRecDepth 100000 in
theorem spec_RenumberPosition_ac (k : Nat) (p0 : Int) (p1 : List Int) (p2 : List Int) (r : List Int × Int) (h : spec_RenumberPosition k p0 p1 p2 = some r) : AC Tryz.prog 54 [iV p0, .d (.sl none (intsD p1)), .d (.sl none (intsD p2))] [] (fun res H' => res = [.d (.sl none (intsD r.1)), iV r.2] ∧ H' = []) := by
 refine AC_of_body true Tryz.func54 rfl Tryz.ntmps54 (rvs := [.tmp 6, .tmp 7]) rfl rfl (fun G hG => ?_)
 have hm : G.H.length = 0 := by rw [hG]; rfl
 have hz : zeroG G.H = true := by rw [hG]; rfl
 unfold spec_RenumberPosition at h
 refine kR ?_
 refine kN 2 rfl ?_
 refine kR ?_
 refine kM 2 rfl ?_
 obtain ⟨r1, hr1, h⟩ := bindO h
 refine kC [] 11 (iV r1) [] rfl Tryz.call118 rfl rfl (spec_l09Lists_ac k p0 p1 _ hr1) rfl ?_
 refine kN 1 rfl ?_
 refine kB (fun s6 => [(0, iV p0), (1, .d (.sl none (intsD p1))), (2, .d (.sl none (intsD p2))), (8, iV s6)]) (fun s6 => []) h (fun s6 h => ?_) (fun s6 h => ?_)
 ·refine kB (fun s4 => [(0, iV p0), (1, .d (.sl none (intsD p1))), (2, .d (.sl none (intsD p2))), (8, iV r1), (19, bV s4)]) (fun s4 => []) h (fun s4 h => ?_) (fun s4 h => ?_)
  ·refine (ACode_region ?_)
   refine kM 1 rfl ?_
   refine AOps_q 13 _ rfl rfl rfl (QOp_eql _ _ _ _ _ _ _ rfl rfl rfl) ?_
   refine kM 1 rfl ?_
   refine AOps_case 14 _ rfl (fun hb2 => ?_) (fun hb2 => ?_)
   ·have h := iteT hb2 h
    refine kM 2 rfl ?_
    obtain ⟨r3, hr3, h⟩ := bindO h
    refine kC [] 17 (bV r3) [] rfl Tryz.call119 rfl rfl (spec_l01Order_ac k p2 p0 _ hr3) rfl ?_
    refine AOps_q 18 _ rfl rfl rfl (QOp_not _ _ _ rfl rfl) ?_
    refine kN 1 rfl ?_
    cases h
    exact Weak_keep 0 hm [0, 1, 2, 8, 19] [] _ _ rfl rfl rfl
   have h := iteF hb2 h
   refine AOps_skip 15 rfl rfl rfl ?_
   refine AOps_skip 16 rfl rfl rfl ?_
   refine AOps_skip 17 rfl rfl rfl ?_
   refine AOps_skip 18 rfl rfl rfl ?_
   refine kN 1 rfl ?_
   cases h
   exact Weak_keep 0 hm [0, 1, 2, 8, 19] [] _ _ rfl rfl rfl
  refine kI h rfl (fun h _ => ?_) (fun h _ => ?_)
  ·refine (ACode_region ?_)
   refine kN 1 rfl ?_
   cases h
   exact Weak_keep 0 hm [0, 1, 2, 8] [] _ _ rfl rfl rfl
  refine ACode_skip ?_
  cases h
  exact Weak_keep 0 hm [0, 1, 2, 8] [] _ _ rfl rfl rfl
 refine kB (fun s9 => [(0, iV p0), (1, .d (.sl none (intsD p1))), (2, .d (.sl none (intsD p2))), (8, iV s9)]) (fun s9 => []) h (fun s9 h => ?_) (fun s9 h => ?_)
 ·refine kR ?_
  refine kM 1 rfl ?_
  refine AOps_q 21 _ rfl rfl rfl (QOp_eql _ _ _ _ _ _ _ rfl rfl rfl) ?_
  refine AOps_nil ?_
  refine kI h rfl (fun h _ => ?_) (fun h _ => ?_)
  ·refine (ACode_region ?_)
   refine kM 2 rfl ?_
   obtain ⟨r8, hr8, h⟩ := bindO h
   refine kC [] 24 (iV r8) [] rfl Tryz.call99 rfl rfl (spec_l09Code_ac k p0 p1 _ hr8) rfl ?_
   refine kN 1 rfl ?_
   cases h
   exact Weak_keep 0 hm [0, 1, 2, 8] [] _ _ rfl rfl rfl
  refine ACode_skip ?_
  cases h
  exact Weak_keep 0 hm [0, 1, 2, 8] [] _ _ rfl rfl rfl
 refine ACode_seq ?_
 refine kR ?_
 refine kM 1 rfl ?_
 refine AOps_q 26 _ rfl rfl rfl (QOp_neq _ _ _ _ _ _ _ rfl rfl rfl) ?_
 refine AOps_nil ?_
 refine kI h rfl (fun h _ => ?_) (fun h _ => ?_)
 ·refine kR ?_
  refine kN 3 rfl ?_
  refine ACode_ret ?_
  cases h
  exact ⟨_, _, fun r a w h => ⟨r, h⟩, _, _, [], _, (.cons (ResV_tmp _ _ rfl) (.cons (ResV_tmp _ _ rfl) .nil)), rfl, rfl, rfl, rfl, rfl⟩
 refine ACode_skip ?_
 refine kR ?_
 refine kM 3 rfl ?_
 obtain ⟨r11, hr11, h⟩ := bindO h
 refine kC [] 31 (.vec 0 0) [.vec 0 (intsD r11)] rfl Tryz.call120 rfl rfl (spec_l09Renumbered_ac k p0 p1 p2 _ hr11) rfl ?_
 refine kN 2 rfl ?_
 refine ACode_ret ?_
 cases h
 exact ⟨_, _, fun r a w h => ⟨r, h⟩, _, _, [], _, (.cons (ResV_tmp _ _ rfl) (.cons (ResV_tmp _ _ rfl) .nil)), rfl, rfl, rfl, rfl, rfl⟩

-- loop.example/g01362/spec.DrawLeastPosition
def spec_DrawLeastPosition (k : Nat) (p0 : List UInt8) : Option (Int × List Int) :=
 (spec_l09With k p0).bind fun r1 => some (r1.1, r1.2)
set_option maxRecDepth 100000 in
theorem spec_DrawLeastPosition_ac (k : Nat) (p0 : List UInt8) (r : Int × List Int) (h : spec_DrawLeastPosition k p0 = some r) : AC Tryz.prog 55 [.d (.sl none (bysD p0))] [] (fun res H' => res = [iV r.1, .vec 0 0] ∧ H' = [.vec 0 (intsD r.2)]) := by
 refine AC_of_body true Tryz.func55 rfl Tryz.ntmps55 (rvs := [.tmp 2, .tmp 3]) rfl rfl (fun G hG => ?_)
 have hm : G.H.length = 0 := by rw [hG]; rfl
 have hz : zeroG G.H = true := by rw [hG]; rfl
 unfold spec_DrawLeastPosition at h
 refine kR ?_
 refine kN 2 rfl ?_
 refine kR ?_
 refine kM 1 rfl ?_
 obtain ⟨r1, hr1, h⟩ := bindO h
 refine kC [] 8 (.tup [iV r1.1, .vec 0 0]) [.vec 0 (intsD r1.2)] rfl Tryz.call96 rfl rfl (spec_l09With_ac k p0 _ hr1) rfl ?_
 refine kN 5 rfl ?_
 refine kR ?_
 refine kN 4 rfl ?_
 refine ACode_ret ?_
 cases h
 exact ⟨_, _, Weak_reset 0 hm hz [2, 3] _ _ rfl rfl, _, _, [0], _, (.cons (ResV_tmp _ _ rfl) (.cons (ResV_tmp _ _ rfl) .nil)), rfl, rfl, rfl, rfl, rfl⟩

-- loop.example/g01362/spec.l09Before
def spec_l09Before_l0 (p0 : List Int) (p1 : List Int) : Nat → Int → Option (Sum (Unit) (Bool))
 | 0, _ => none
 | k0 + 1, x1 => (if decide (x1 < (p0.length : Int)) then (if 0 ≤ x1 ∧ x1 < (p0.length : Int) then (if 0 ≤ x1 ∧ x1 < (p1.length : Int) then (if !decide ((p0.getD x1.toNat 0) = (p1.getD x1.toNat 0)) then (if 0 ≤ x1 ∧ x1 < (p0.length : Int) then (if 0 ≤ x1 ∧ x1 < (p1.length : Int) then some (.inr (decide ((p0.getD x1.toNat 0) < (p1.getD x1.toNat 0)))) else none) else none) else spec_l09Before_l0 p0 p1 k0 (w64 (x1 + 1))) else none) else none) else some (.inl ()))
def spec_l09Before (k : Nat) (p0 : List Int) (p1 : List Int) : Option (Bool) :=
 (spec_l09Before_l0 p0 p1 k 0 : Option (Sum (Unit) (Bool))).bind fun os8 => (match os8 with | .inl s8 => some false | .inr rr => some rr)
set_option maxRecDepth 100000 in
theorem spec_l09Before_ac (k : Nat) (p0 : List Int) (p1 : List Int) (r : Bool) (h : spec_l09Before k p0 p1 = some r) : AC Tryz.prog 165 [.d (.sl none (intsD p0)), .d (.sl none (intsD p1))] [] (fun res H' => res = [bV r] ∧ H' = []) := by
 refine AC_of_body true Tryz.func165 rfl Tryz.ntmps165 (rvs := [.tmp 4]) rfl rfl (fun G hG => ?_)
 have hm : G.H.length = 0 := by rw [hG]; rfl
 have hz : zeroG G.H = true := by rw [hG]; rfl
 unfold spec_l09Before at h
 refine kR ?_
 refine kN 1 rfl ?_
 refine kO (fun s8 => []) (fun s8 => []) h (fun os8 h hks8 => ?_) (fun s8 h => ?_)
 ·refine kR ?_
  refine kN 1 rfl ?_
  refine ACode_block ?_
  refine ACode_loopW (fun k0 E H => ∃ (x1 : Int), E = [(0, .d (.sl none (intsD p0))), (1, .d (.sl none (intsD p1))), (5, iV x1)] ∧ H = [] ∧ spec_l09Before_l0 p0 p1 k0 x1 = some os8) k _ _ (Weak_keep 0 hm [0, 1, 5] [] _ _ rfl rfl rfl) ⟨_, rfl, rfl, h⟩ ?_
  clear h
  rintro k0 E H ⟨x1, rfl, rfl, h⟩
  cases k0 with
  | zero => cases (show (none : Option (Sum (Unit) (Bool))) = some _ from h)
  | succ k0 =>
   rw [spec_l09Before_l0] at h
   refine ACode_seq ?_
   refine kR ?_
   refine kM 2 rfl ?_
   refine AOps_q 8 _ rfl rfl rfl (QOp_len_sl _ _ _ _ _ _ _ (intsD_length _) rfl rfl rfl rfl Tryz.underlying27 rfl) ?_
   refine AOps_q 9 _ rfl rfl rfl (QOp_lss _ _ _ _ _ _ _ rfl rfl rfl) ?_
   refine AOps_nil ?_
   refine kI h rfl (fun h _ => ?_) (fun h _ => ?_)
   ·refine ACode_skip ?_
    refine ACode_seq ?_
    refine ACode_block ?_
    refine ACode_seq (ACode_quiet mixed (by kernel_rfl) ?_)
    refine kQ 2 rfl ?_
    obtain ⟨hc3, h⟩ := guardO h
    refine AQ_q 14 _ rfl rfl rfl (QOp_indexAddr_sl _ _ _ _ _ _ _ _ rfl Tryz.underlying27 Tryz.sizeOf2 hc3.1 (by rw [intsD_length]; exact hc3.2) rfl rfl) ?_
    refine AQ_q 15 _ rfl rfl rfl (QOp_load_pv _ _ _ _ _ rfl Tryz.isAgg2 rfl (intsD_get _ _ 0 (by omega))) ?_
    refine kQ 2 rfl ?_
    obtain ⟨hc4, h⟩ := guardO h
    refine AQ_q 18 _ rfl rfl rfl (QOp_indexAddr_sl _ _ _ _ _ _ _ _ rfl Tryz.underlying27 Tryz.sizeOf2 hc4.1 (by rw [intsD_length]; exact hc4.2) rfl rfl) ?_
    refine AQ_q 19 _ rfl rfl rfl (QOp_load_pv _ _ _ _ _ rfl Tryz.isAgg2 rfl (intsD_get _ _ 0 (by omega))) ?_
    refine AQ_q 20 _ rfl rfl rfl (QOp_neq _ _ _ _ _ _ _ rfl rfl rfl) ?_
    refine AQ_nil ?_
    refine kI h rfl (fun h _ => ?_) (fun h _ => ?_)
    ·refine ACode_seq (ACode_quiet mixed (by kernel_rfl) ?_)
     refine kQ 2 rfl ?_
     obtain ⟨hc6, h⟩ := guardO h
     refine AQ_q 23 _ rfl rfl rfl (QOp_indexAddr_sl _ _ _ _ _ _ _ _ rfl Tryz.underlying27 Tryz.sizeOf2 hc6.1 (by rw [intsD_length]; exact hc6.2) rfl rfl) ?_
     refine AQ_q 24 _ rfl rfl rfl (QOp_load_pv _ _ _ _ _ rfl Tryz.isAgg2 rfl (intsD_get _ _ 0 (by omega))) ?_
     refine kQ 2 rfl ?_
     obtain ⟨hc7, h⟩ := guardO h
     refine AQ_q 27 _ rfl rfl rfl (QOp_indexAddr_sl _ _ _ _ _ _ _ _ rfl Tryz.underlying27 Tryz.sizeOf2 hc7.1 (by rw [intsD_length]; exact hc7.2) rfl rfl) ?_
     refine AQ_q 28 _ rfl rfl rfl (QOp_load_pv _ _ _ _ _ rfl Tryz.isAgg2 rfl (intsD_get _ _ 0 (by omega))) ?_
     refine AQ_q 29 _ rfl rfl rfl (QOp_lss _ _ _ _ _ _ _ rfl rfl rfl) ?_
     refine kQ 1 rfl ?_
     refine AQ_nil ?_
     refine ACode_ret ?_
     cases h
     have h := hks8
     cases h
     exact ⟨_, _, fun r a w h => ⟨r, h⟩, _, _, [], _, (.cons (ResV_tmp _ _ rfl) .nil), rfl, rfl, rfl, rfl, rfl⟩
    refine ACode_skip ?_
    refine (ACode_region ?_)
    refine kM 1 rfl ?_
    refine AOps_q 11 _ rfl rfl rfl (QOp_add _ _ _ _ _ _ _ rfl rfl rfl) ?_
    refine kN 1 rfl ?_
    exact ⟨k0, _, _, Nat.lt_succ_self _, Weak_keep 0 hm [0, 1, 5] [] _ _ rfl rfl rfl, _, rfl, rfl, h⟩
   refine ACode_exit ?_
   cases h
   exact ⟨_, rfl, Weak_keep 0 hm [] [] _ _ rfl rfl rfl⟩
 refine kR ?_
 refine kN 1 rfl ?_
 refine ACode_ret ?_
 cases h
 exact ⟨_, _, fun r a w h => ⟨r, h⟩, _, _, [], _, (.cons (ResV_tmp _ _ rfl) .nil), rfl, rfl, rfl, rfl, rfl⟩

-- loop.example/g01362/spec.l09Least
def spec_l09Least_l1 (p2 : List Int) (x6 : Int) : Nat → Bool → Int → Option (Bool)
 | 0, _, _ => none
 | k1 + 1, x8, x9 => (if decide (x9 < (p2.length : Int)) then ((if x8 then some true else (if 0 ≤ x9 ∧ x9 < (p2.length : Int) then some (decide ((p2.getD x9.toNat 0) = x6)) else none)) : Option (Bool)).bind fun s13 => spec_l09Least_l1 p2 x6 k1 s13 (w64 (x9 + 1)) else some x8)
def spec_l09Least_l0 (k : Nat) (self : Int → (List Int) → (List Int) → (List Int) → Option (List Int)) (p0 : Int) (p1 : List Int) (p2 : List Int) : Nat → (List Int) → Int → Option (List Int)
 | 0, _, _ => none
 | k0 + 1, x5, x6 => (if decide (x6 < p0) then ((spec_l09Least_l1 p2 x6 k false 0 : Option (Bool)).bind fun s14 => (if !s14 then (spec_l01Own p2).bind fun r16 => (if r16.length + ([x6]).length ≤ 1099511627776 then (self p0 p1 (r16 ++ ([x6])) x5).bind fun r18 => some r18 else none) else some x5) : Option (List Int)).bind fun s19 => spec_l09Least_l0 k self p0 p1 p2 k0 s19 (w64 (x6 + 1)) else some x5)
def spec_l09Least_body (self : Int → (List Int) → (List Int) → (List Int) → Option (List Int)) (k : Nat) (p0 : Int) (p1 : List Int) (p2 : List Int) (p3 : List Int) : Option (List Int) :=
 (if decide ((p2.length : Int) = p0) then (spec_l09Renumbered k p0 p1 p2).bind fun r2 => (spec_l09Before k r2 p3).bind fun r3 => (if r3 then some r2 else some p3) else (spec_l09Least_l0 k self p0 p1 p2 k p3 0 : Option (List Int)).bind fun s20 => some s20)
def spec_l09Least : Nat → Int → (List Int) → (List Int) → (List Int) → Option (List Int)
 | 0, _, _, _, _ => none
 | k + 1, p0, p1, p2, p3 => spec_l09Least_body (spec_l09Least k) k p0 p1 p2 p3
set_option maxRecDepth 100000 in
theorem spec_l09Least_ac (k : Nat) (p0 : Int) (p1 : List Int) (p2 : List Int) (p3 : List Int) (r : List Int) (h : spec_l09Least k p0 p1 p2 p3 = some r) : AC Tryz.prog 121 [iV p0, .d (.sl none (intsD p1)), .d (.sl none (intsD p2)), .d (.sl none (intsD p3))] [] (fun res H' => res = [.d (.sl none (intsD r))] ∧ H' = []) := by
 induction k generalizing p0 p1 p2 p3 r with
 | zero => simp [spec_l09Least] at h
 | succ k ih =>
  rw [spec_l09Least] at h
  obtain ⟨self, hself, hk⟩ : ∃ self : Int → (List Int) → (List Int) → (List Int) → Option (List Int), (∀ (p0 : Int) (p1 : List Int) (p2 : List Int) (p3 : List Int) (r : List Int), self p0 p1 p2 p3 = some r → AC Tryz.prog 121 [iV p0, .d (.sl none (intsD p1)), .d (.sl none (intsD p2)), .d (.sl none (intsD p3))] [] (fun res H' => res = [.d (.sl none (intsD r))] ∧ H' = [])) ∧ spec_l09Least k = self := ⟨spec_l09Least k, fun p0 p1 p2 p3 r h => ih p0 p1 p2 p3 r h, rfl⟩
  rw [hk] at h
  clear ih hk
  refine AC_of_body true Tryz.func121 rfl Tryz.ntmps121 (rvs := [.tmp 8]) rfl rfl (fun G hG => ?_)
  have hm : G.H.length = 0 := by rw [hG]; rfl
  have hz : zeroG G.H = true := by rw [hG]; rfl
  unfold spec_l09Least_body at h
  refine kR ?_
  refine kN 1 rfl ?_
  refine ACode_seq ?_
  refine kR ?_
  refine kM 1 rfl ?_
  refine AOps_q 14 _ rfl rfl rfl (QOp_len_sl _ _ _ _ _ _ _ (intsD_length _) rfl rfl rfl rfl Tryz.underlying27 rfl) ?_
  refine kM 1 rfl ?_
  refine AOps_q 16 _ rfl rfl rfl (QOp_eql _ _ _ _ _ _ _ rfl rfl rfl) ?_
  refine AOps_nil ?_
  refine kI h rfl (fun h _ => ?_) (fun h _ => ?_)
  ·refine ACode_seq ?_
   refine kR ?_
   refine kM 3 rfl ?_
   obtain ⟨r2, hr2, h⟩ := bindO h
   refine kC [] 20 (.vec 0 0) [.vec 0 (intsD r2)] rfl Tryz.call120 rfl rfl (spec_l09Renumbered_ac k p0 p1 p2 _ hr2) rfl ?_
   refine kN 1 rfl ?_
   refine kR ?_
   refine kM 2 rfl ?_
   obtain ⟨r3, hr3, h⟩ := bindO h
   refine AOps_callL [] 23 _ _ _ _ _ _ _ _ _ _ rfl rfl rfl rfl rfl rfl rfl Tryz.call165 rfl (nodupB_sound _ rfl) rfl rfl rfl (spec_l09Before_ac k r2 p3 _ hr3) ?_
   rintro _ _ ⟨rfl, rfl⟩
   refine ⟨(fun _ h => nomatch h), (allc (flat_s _) (fun _ h => nomatch h)), AOps_as 23 (v' := bV r3) (H' := [.vec 0 (intsD r2)]) rfl rfl ?_⟩
   refine AOps_nil ?_
   refine kI h rfl (fun h _ => ?_) (fun h _ => ?_)
   ·refine kR ?_
    refine kN 2 rfl ?_
    refine ACode_ret ?_
    cases h
    exact ⟨_, _, fun r a w h => ⟨r, h⟩, _, _, [], _, (.cons (ResV_tmp _ _ rfl) .nil), rfl, rfl, rfl, rfl, rfl⟩
   refine ACode_skip ?_
   refine kR ?_
   refine kN 2 rfl ?_
   refine ACode_ret ?_
   cases h
   exact ⟨_, _, fun r a w h => ⟨r, h⟩, _, _, [], _, (.cons (ResV_tmp _ _ rfl) .nil), rfl, rfl, rfl, rfl, rfl⟩
  refine ACode_skip ?_
  refine kB (fun s20 => [(3, .d (.sl none (intsD s20)))]) (fun s20 => []) h (fun s20 h => ?_) (fun s20 h => ?_)
  ·refine kR ?_
   refine kN 1 rfl ?_
   refine ACode_block ?_
   refine ACode_loopW (fun k0 E H => ∃ (x5 : List Int) (x6 : Int), E = [(0, iV p0), (1, .d (.sl none (intsD p1))), (2, .d (.sl none (intsD p2))), (3, .d (.sl none (intsD x5))), (10, iV x6)] ∧ H = [] ∧ spec_l09Least_l0 k self p0 p1 p2 k0 x5 x6 = some s20) k _ _ (Weak_keep 0 hm [0, 1, 2, 3, 10] [] _ _ rfl rfl rfl) ⟨_, _, rfl, rfl, h⟩ ?_
   clear h
   rintro k0 E H ⟨x5, x6, rfl, rfl, h⟩
   cases k0 with
   | zero => cases (show (none : Option (List Int)) = some _ from h)
   | succ k0 =>
    rw [spec_l09Least_l0] at h
    refine ACode_seq ?_
    refine kR ?_
    refine kM 2 rfl ?_
    refine AOps_q 28 _ rfl rfl rfl (QOp_lss _ _ _ _ _ _ _ rfl rfl rfl) ?_
    refine AOps_nil ?_
    refine kI h rfl (fun h _ => ?_) (fun h _ => ?_)
    ·refine ACode_skip ?_
     refine kB (fun s19 => [(0, iV p0), (1, .d (.sl none (intsD p1))), (2, .d (.sl none (intsD p2))), (3, .d (.sl none (intsD s19))), (10, iV x6)]) (fun s19 => []) h (fun s19 h => ?_) (fun s19 h => ?_)
     ·refine ACode_block ?_
      refine kR ?_
      refine kN 1 rfl ?_
      refine kB (fun s14 => [(0, iV p0), (1, .d (.sl none (intsD p1))), (2, .d (.sl none (intsD p2))), (3, .d (.sl none (intsD x5))), (10, iV x6), (11, bV s14)]) (fun s14 => []) h (fun s14 h => ?_) (fun s14 h => ?_)
      ·refine kR ?_
       refine kN 1 rfl ?_
       refine ACode_block ?_
       refine ACode_loopW (fun k1 E H => ∃ (x8 : Bool) (x9 : Int), E = [(0, iV p0), (1, .d (.sl none (intsD p1))), (2, .d (.sl none (intsD p2))), (3, .d (.sl none (intsD x5))), (10, iV x6), (11, bV x8), (12, iV x9)] ∧ H = [] ∧ spec_l09Least_l1 p2 x6 k1 x8 x9 = some s14) k _ _ (Weak_keep 0 hm [0, 1, 2, 3, 10, 11, 12] [] _ _ rfl rfl rfl) ⟨_, _, rfl, rfl, h⟩ ?_
       clear h
       rintro k1 E H ⟨x8, x9, rfl, rfl, h⟩
       cases k1 with
       | zero => cases (show (none : Option (Bool)) = some _ from h)
       | succ k1 =>
        rw [spec_l09Least_l1] at h
        refine ACode_seq ?_
        refine kR ?_
        refine kM 2 rfl ?_
        refine AOps_q 33 _ rfl rfl rfl (QOp_len_sl _ _ _ _ _ _ _ (intsD_length _) rfl rfl rfl rfl Tryz.underlying27 rfl) ?_
        refine AOps_q 34 _ rfl rfl rfl (QOp_lss _ _ _ _ _ _ _ rfl rfl rfl) ?_
        refine AOps_nil ?_
        refine kI h rfl (fun h _ => ?_) (fun h _ => ?_)
        ·refine ACode_skip ?_
         refine kB (fun s13 => [(0, iV p0), (1, .d (.sl none (intsD p1))), (2, .d (.sl none (intsD p2))), (3, .d (.sl none (intsD x5))), (10, iV x6), (11, bV s13), (12, iV x9)]) (fun s13 => []) h (fun s13 h => ?_) (fun s13 h => ?_)
         ·refine ACode_block ?_
          refine (ACode_region ?_)
          refine kM 2 rfl ?_
          refine AOps_case 38 _ rfl (fun hb11 => ?_) (fun hb11 => ?_)
          ·have h := iteT hb11 h
           refine AOps_skip 39 rfl rfl rfl ?_
           refine AOps_skip 40 rfl rfl rfl ?_
           refine AOps_skip 41 rfl rfl rfl ?_
           refine AOps_skip 42 rfl rfl rfl ?_
           refine AOps_skip 43 rfl rfl rfl ?_
           refine AOps_skip 44 rfl rfl rfl ?_
           refine kN 2 rfl ?_
           cases h
           exact Weak_keep 0 hm [0, 1, 2, 3, 10, 11, 12] [] _ _ rfl rfl rfl
          have h := iteF hb11 h
          refine kM 2 rfl ?_
          obtain ⟨hc12, h⟩ := guardO h
          refine AOps_q 41 _ rfl rfl rfl (QOp_indexAddr_sl _ _ _ _ _ _ _ _ rfl Tryz.underlying27 Tryz.sizeOf2 hc12.1 (by rw [intsD_length]; exact hc12.2) rfl rfl) ?_
          refine AOps_q 42 _ rfl rfl rfl (QOp_load_pv _ _ _ _ _ rfl Tryz.isAgg2 rfl (intsD_get _ _ 0 (by omega))) ?_
          refine kM 1 rfl ?_
          refine AOps_q 44 _ rfl rfl rfl (QOp_eql _ _ _ _ _ _ _ rfl rfl rfl) ?_
          refine kN 2 rfl ?_
          cases h
          exact Weak_keep 0 hm [0, 1, 2, 3, 10, 11, 12] [] _ _ rfl rfl rfl
         refine (ACode_region ?_)
         refine kM 1 rfl ?_
         refine AOps_q 36 _ rfl rfl rfl (QOp_add _ _ _ _ _ _ _ rfl rfl rfl) ?_
         refine kN 1 rfl ?_
         exact ⟨k1, _, _, Nat.lt_succ_self _, Weak_keep 0 hm [0, 1, 2, 3, 10, 11, 12] [] _ _ rfl rfl rfl, _, _, rfl, rfl, h⟩
        refine ACode_exit ?_
        cases h
        exact Weak_keep 0 hm [0, 1, 2, 3, 10, 11] [] _ _ rfl rfl rfl
      refine kR ?_
      refine kM 1 rfl ?_
      refine AOps_q 47 _ rfl rfl rfl (QOp_not _ _ _ rfl rfl) ?_
      refine AOps_nil ?_
      refine kI h rfl (fun h _ => ?_) (fun h _ => ?_)
      ·refine (ACode_region ?_)
       refine kM 3 rfl ?_
       obtain ⟨r16, hr16, h⟩ := bindO h
       refine kC [] 51 (.vec 0 0) [.vec 0 (intsD r16)] rfl Tryz.call122 rfl rfl (spec_l01Own_ac p2 _ hr16) rfl ?_
       refine kM 1 rfl ?_
       refine AOps_buildSlice 53 _ _ _ [_] (intsD ([x6])) _ rfl rfl rfl rfl rfl (by decide) Tryz.underlying27 Tryz.sizeOf2 (zero_of Tryz.typeInfo2 rfl) rfl rfl (intsD_one _) ?_
       obtain ⟨hc17, h⟩ := guardO h
       refine AOps_append 54 _ _ _ _ _ _ _ _ _ _ _ _ rfl rfl rfl rfl rfl rfl rfl Tryz.underlying27 Tryz.type2 rfl rfl rfl (by decide) rfl rfl rfl rfl (intsD_one _) (by rw [intsD_length, intsD_length]; exact hc17) ?_
       rw [intsD_app]
       refine kM 1 rfl ?_
       refine AOps_freezeL [54] 0 1 _ (allc (rfl) (fun _ h => nomatch h)) rfl ?_
       obtain ⟨r18, hr18, h⟩ := bindO h
       refine kC [] 56 (.d (.sl none (intsD r18))) [.gone, .vec 0 (intsD ([x6]))] rfl Tryz.call121 rfl rfl (hself p0 p1 (r16 ++ ([x6])) x5 _ hr18) rfl ?_
       refine kN 1 rfl ?_
       cases h
       exact Weak_keep 0 hm [0, 1, 2, 3, 10] [] _ _ rfl rfl rfl
      refine ACode_skip ?_
      cases h
      exact Weak_keep 0 hm [0, 1, 2, 3, 10] [] _ _ rfl rfl rfl
     refine (ACode_region ?_)
     refine kM 1 rfl ?_
     refine AOps_q 30 _ rfl rfl rfl (QOp_add _ _ _ _ _ _ _ rfl rfl rfl) ?_
     refine kN 1 rfl ?_
     exact ⟨k0, _, _, Nat.lt_succ_self _, Weak_keep 0 hm [0, 1, 2, 3, 10] [] _ _ rfl rfl rfl, _, _, rfl, rfl, h⟩
    refine ACode_exit ?_
    cases h
    exact Weak_keep 0 hm [3] [] _ _ rfl rfl rfl
  refine kR ?_
  refine kN 2 rfl ?_
  refine ACode_ret ?_
  cases h
  exact ⟨_, _, fun r a w h => ⟨r, h⟩, _, _, [], _, (.cons (ResV_tmp _ _ rfl) .nil), rfl, rfl, rfl, rfl, rfl⟩

-- loop.example/g01362/spec.LeastPosition
def spec_LeastPosition (k : Nat) (p0 : Int) (p1 : List Int) : Option (List Int × Int) :=
 (spec_l09Code k p0 p1).bind fun r1 => (if !decide (r1 = 0) then some ([], r1) else (spec_l01Own p1).bind fun r3 => (spec_l09Least k p0 p1 ([] : List Int) r3).bind fun r4 => some (r4, 0))
set_option maxRecDepth 100000 in
theorem spec_LeastPosition_ac (k : Nat) (p0 : Int) (p1 : List Int) (r : List Int × Int) (h : spec_LeastPosition k p0 p1 = some r) : AC Tryz.prog 56 [iV p0, .d (.sl none (intsD p1))] [] (fun res H' => res = [.d (.sl none (intsD r.1)), iV r.2] ∧ H' = []) := by
 refine AC_of_body true Tryz.func56 rfl Tryz.ntmps56 (rvs := [.tmp 4, .tmp 5]) rfl rfl (fun G hG => ?_)
 have hm : G.H.length = 0 := by rw [hG]; rfl
 have hz : zeroG G.H = true := by rw [hG]; rfl
 unfold spec_LeastPosition at h
 refine kR ?_
 refine kN 2 rfl ?_
 refine ACode_seq ?_
 refine kR ?_
 refine kM 2 rfl ?_
 obtain ⟨r1, hr1, h⟩ := bindO h
 refine kC [] 9 (iV r1) [] rfl Tryz.call99 rfl rfl (spec_l09Code_ac k p0 p1 _ hr1) rfl ?_
 refine kN 1 rfl ?_
 refine kR ?_
 refine kM 1 rfl ?_
 refine AOps_q 11 _ rfl rfl rfl (QOp_neq _ _ _ _ _ _ _ rfl rfl rfl) ?_
 refine AOps_nil ?_
 refine kI h rfl (fun h _ => ?_) (fun h _ => ?_)
 ·refine kR ?_
  refine kN 3 rfl ?_
  refine ACode_ret ?_
  cases h
  exact ⟨_, _, fun r a w h => ⟨r, h⟩, _, _, [], _, (.cons (ResV_tmp _ _ rfl) (.cons (ResV_tmp _ _ rfl) .nil)), rfl, rfl, rfl, rfl, rfl⟩
 refine ACode_skip ?_
 refine kR ?_
 refine kM 2 rfl ?_
 refine AOps_buildSlice 15 _ _ _ [] (intsD ([] : List Int)) _ rfl rfl rfl rfl rfl (by decide) Tryz.underlying27 Tryz.sizeOf2 (zero_of Tryz.typeInfo2 rfl) rfl rfl (intsD_one _) ?_
 refine kM 1 rfl ?_
 obtain ⟨r3, hr3, h⟩ := bindO h
 refine kC [] 17 (.vec 1 0) [.vec 0 (intsD ([] : List Int)), .vec 0 (intsD r3)] rfl Tryz.call122 rfl rfl (spec_l01Own_ac p1 _ hr3) rfl ?_
 refine AOps_freezeL [15] 0 0 _ (allc (rfl) (fun _ h => nomatch h)) rfl ?_
 refine AOps_freezeL [17] 1 0 _ (allc (rfl) (fun _ h => nomatch h)) rfl ?_
 obtain ⟨r4, hr4, h⟩ := bindO h
 refine kC [] 18 (.d (.sl none (intsD r4))) [.gone, .gone] rfl Tryz.call121 rfl rfl (spec_l09Least_ac k p0 p1 ([] : List Int) r3 _ hr4) rfl ?_
 refine kN 2 rfl ?_
 refine ACode_ret ?_
 cases h
 exact ⟨_, _, fun r a w h => ⟨r, h⟩, _, _, [], _, (.cons (ResV_tmp _ _ rfl) (.cons (ResV_tmp _ _ rfl) .nil)), rfl, rfl, rfl, rfl, rfl⟩

end Go.Proofs.YtghhnpdhehjlaaaGreat
