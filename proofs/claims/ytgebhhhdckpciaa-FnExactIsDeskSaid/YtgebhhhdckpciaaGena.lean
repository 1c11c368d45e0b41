/- Plain functions of the program and that the program computes them: printed by the own tool gen.py. No conditions. -/
import Derived.Test.YtgebhhhdckpciaaCol
import Derived.Test.YtgebhhhdckpciaaAb13
import Derived.Test.YtgebhhhdckpciaaProg
import Derived.KernelRfl
set_option linter.unusedVariables false
set_option linter.unusedSimpArgs false
namespace Go.Proofs.Ytgebhhhdckpciaa
open Go Go.RowKit Ab

theorem mixed : Try.prog.follows .mixedOrders = true := by kernel_rfl

-- loop.example/g01362/laws.toByteA136
def laws_toByteA136_l0 (p0 : B136) : Nat → Int → B136 → Option (B136)
  | 0, _, _ => none
  | k0 + 1, x1, x2 => (if decide (x1 < 136) then (if 0 ≤ x1 ∧ x1 < 136 then (if 0 ≤ x1 ∧ x1 < 136 then laws_toByteA136_l0 p0 k0 (w64 (x1 + 1)) (x2.set x1.toNat (p0.get x1.toNat)) else none) else none) else some x2)
def laws_toByteA136 (k : Nat) (p0 : B136) : Option (B136) :=
  (laws_toByteA136_l0 p0 k 0 B136.zero : Option (B136)).bind fun s6 => some s6
set_option maxRecDepth 100000 in
theorem laws_toByteA136_ac (k : Nat) (p0 : B136) (r : B136) (h : laws_toByteA136 k p0 = some r) : AC Try.prog 38 [.d (.agg (byD p0))] [] (fun res H' => res = [.d (.agg (byD r))] ∧ H' = []) := by
  refine AC_of_body true Try.func38 rfl Try.ntmps38 (rvs := [.cell 2 25]) rfl rfl (fun G hG => ?_)
  have hm : G.H.length = 0 := by rw [hG]; rfl
  unfold laws_toByteA136 at h
  refine ACode_seq (ACode_region ?_)
  refine AOps_boxI 1 _ _ (.agg (byD p0)) (byD p0) rfl (byD_one _) rfl rfl rfl rfl rfl ?_
  refine AOps_alloc 2 _ _ (byD B136.zero) (zero_of Try.typeInfo25 rfl) (by rfl) rfl rfl rfl rfl ?_
  refine AOps_nil ?_
  refine ACode_seq (ACode_region ?_)
  refine AOps_alloc 3 _ _ (byD B136.zero) (zero_of Try.typeInfo25 rfl) (by rfl) rfl rfl rfl rfl ?_
  refine AOps_nil ?_
  obtain ⟨s6, hss6, hks6⟩ := bindO h
  clear h
  refine ACode_seqJ (fun E' H' => Weak 15 G E' H' [(2, .ptr 0 0), (3, .ptr 1 0)] [.box (byD B136.zero), .box (byD s6)]) ?_ ?_
  · have h := hss6
    clear hss6
    refine ACode_seq (ACode_region ?_)
    refine AOps_q 4 _ rfl rfl rfl (QOp_assign _ _ rfl rfl) ?_
    refine AOps_nil ?_
    refine ACode_block ?_
    refine ACode_loopW (fun k0 E H => ∃ (x1 : Int) (x2 : B136), E = [(1, .d (.pv (byD p0) 0)), (2, .ptr 0 0), (3, .ptr 1 0), (4, iV x1)] ∧ H = [.box (byD B136.zero), .box (byD x2)] ∧ laws_toByteA136_l0 p0 k0 x1 x2 = some s6) k _ _ (Weak_keep 0 hm [1, 2, 3, 4] [0, 1] _ _ rfl rfl rfl) ⟨_, _, rfl, rfl, h⟩ ?_
    clear h
    rintro k0 E H ⟨x1, x2, rfl, rfl, h⟩
    cases k0 with
    | zero => cases (show (none : Option (B136)) = some _ from h)
    | succ k0 =>
      rw [laws_toByteA136_l0] at h
      refine ACode_seq ?_
      refine ACode_seq (ACode_region ?_)
      refine AOps_q 5 _ rfl rfl rfl (QOp_move _ _ rfl rfl) ?_
      refine AOps_q 6 _ rfl rfl rfl (QOp_lss _ _ _ _ _ _ _ rfl rfl rfl) ?_
      refine AOps_nil ?_
      refine ACode_cond _ rfl (fun hb3 => ?_) (fun hb3 => ?_)
      · have h := iteT hb3 h
        refine ACode_skip ?_
        refine ACode_seq ?_
        refine ACode_block ?_
        refine (ACode_region ?_)
        refine AOps_q 9 _ rfl rfl rfl (QOp_move _ _ rfl rfl) ?_
        refine AOps_q 10 _ rfl rfl rfl (QOp_move _ _ rfl rfl) ?_
        obtain ⟨hc4, h⟩ := guardO h
        refine AOps_q 11 _ rfl rfl rfl (QOp_indexAddrA_pv _ _ _ _ _ _ _ _ _ rfl Try.underlying25 Try.sizeOf5 hc4.1 hc4.2 rfl rfl) ?_
        refine AOps_q 12 _ rfl rfl rfl (QOp_load_pv _ _ _ _ _ rfl Try.isAgg5 rfl (by rw [Nat.zero_add]; exact byD_get _ _ (by omega))) ?_
        obtain ⟨hc5, h⟩ := guardO h
        refine AOps_q 13 _ rfl rfl rfl (QOp_indexAddrA_ptr _ _ _ _ _ _ _ _ _ _ rfl Try.underlying25 Try.sizeOf5 hc5.1 hc5.2 rfl rfl rfl rfl) ?_
        refine AOps_store1 _ _ _ _ _ _ (byD (x2.set x1.toNat (p0.get x1.toNat))) _ rfl rfl rfl rfl rfl rfl rfl Try.sizeOf5 (by rw [byD_length]; omega) (byD_set0 x2 x1.toNat (p0.get x1.toNat)) ?_
        refine AOps_nil ?_
        refine (ACode_region ?_)
        refine AOps_q 7 _ rfl rfl rfl (QOp_move _ _ rfl rfl) ?_
        refine AOps_q 8 _ rfl rfl rfl (QOp_add _ _ _ _ _ _ _ rfl rfl rfl) ?_
        refine AOps_q 4 _ rfl rfl rfl (QOp_assign _ _ rfl rfl) ?_
        refine AOps_nil ?_
        exact ⟨k0, _, _, Nat.lt_succ_self _, Weak_keep 0 hm [1, 2, 3, 4] [0, 1] _ _ rfl rfl rfl, _, _, rfl, rfl, h⟩
      · have h := iteF hb3 h
        refine ACode_exit ?_
        cases h
        exact Weak_keep 0 hm [2, 3] [0, 1] _ _ rfl rfl rfl
  intro E' H' hw
  refine ACode_weak hw ?_
  have h := hks6
  refine ACode_seq (ACode_region ?_)
  refine AOps_q 14 _ rfl rfl rfl (QOp_loadN_ptr _ _ _ _ _ _ _ rfl Try.isAgg25 Try.sizeOf25 rfl rfl (byD_all _) (byD_length _)) ?_
  refine AOps_store _ _ _ _ _ _ (byD _) _ _ rfl rfl rfl rfl rfl rfl rfl (byD_one _) (by rw [byD_length]; exact Try.sizeOf25) (by rw [byD_length, byD_length]; decide) (byD_whole _ _) ?_
  refine AOps_nil ?_
  refine ACode_ret ?_
  cases h
  exact ⟨_, _, fun r a w h => ⟨r, h⟩, _, _, [], _, (.cons (ResV_agg _ _ _ _ _ _ Try.isAgg25 Try.sizeOf25 rfl rfl (byD_take _) (byD_length _)) .nil), rfl, rfl, rfl, rfl, rfl⟩

-- loop.example/g01362/laws.toColouring
def laws_toColouring (k : Nat) (p0 : Col) : Option (Col) :=
  (laws_toByteA136 k p0.e).bind fun r1 => some (⟨(⟨(⟨p0.p, Col.zero.k, Col.zero.e⟩ : Col).p, p0.k, (⟨p0.p, Col.zero.k, Col.zero.e⟩ : Col).e⟩ : Col).p, (⟨(⟨p0.p, Col.zero.k, Col.zero.e⟩ : Col).p, p0.k, (⟨p0.p, Col.zero.k, Col.zero.e⟩ : Col).e⟩ : Col).k, r1⟩ : Col)
set_option maxRecDepth 100000 in
theorem laws_toColouring_ac (k : Nat) (p0 : Col) (r : Col) (h : laws_toColouring k p0 = some r) : AC Try.prog 21 [.d (.agg (colD p0))] [] (fun res H' => res = [.d (.agg (colD r))] ∧ H' = []) := by
  refine AC_of_body true Try.func21 rfl Try.ntmps21 (rvs := [.cell 2 31]) rfl rfl (fun G hG => ?_)
  have hm : G.H.length = 0 := by rw [hG]; rfl
  unfold laws_toColouring at h
  refine ACode_seq (ACode_region ?_)
  refine AOps_boxI 1 _ _ (.agg (colD p0)) (colD p0) rfl (colD_one _) rfl rfl rfl rfl rfl ?_
  refine AOps_alloc 2 _ _ (colD Col.zero) (zero_of Try.typeInfo31 rfl) (by rfl) rfl rfl rfl rfl ?_
  refine AOps_nil ?_
  refine ACode_seq (ACode_region ?_)
  refine AOps_alloc 3 _ _ (colD Col.zero) (zero_of Try.typeInfo31 rfl) (by rfl) rfl rfl rfl rfl ?_
  refine AOps_nil ?_
  refine ACode_seq (ACode_region ?_)
  refine AOps_q 4 _ rfl rfl rfl (QOp_fieldAddr_pv _ _ _ _ _ 0 _ _ rfl Try.underlying27 rfl _ Try.sizeOf2 rfl rfl) ?_
  refine AOps_q 5 _ rfl rfl rfl (QOp_load_pv _ _ _ _ _ rfl Try.isAgg2 rfl rfl) ?_
  refine AOps_q 6 _ rfl rfl rfl (QOp_fieldAddr_ptr _ _ _ _ _ _ 0 _ _ rfl Try.underlying31 rfl _ Try.sizeOf2 rfl rfl rfl rfl) ?_
  refine AOps_store1 _ _ _ _ _ _ (colD (⟨p0.p, Col.zero.k, Col.zero.e⟩ : Col)) _ rfl rfl rfl rfl rfl rfl rfl Try.sizeOf2 (by rw [colD_length]; omega) (colD_set0 _ _) ?_
  refine AOps_nil ?_
  refine ACode_seq (ACode_region ?_)
  refine AOps_q 7 _ rfl rfl rfl (QOp_fieldAddr_pv _ _ _ _ _ 1 _ _ rfl Try.underlying27 rfl _ Try.sizeOf2 rfl rfl) ?_
  refine AOps_q 8 _ rfl rfl rfl (QOp_load_pv _ _ _ _ _ rfl Try.isAgg2 rfl rfl) ?_
  refine AOps_q 9 _ rfl rfl rfl (QOp_fieldAddr_ptr _ _ _ _ _ _ 1 _ _ rfl Try.underlying31 rfl _ Try.sizeOf2 rfl rfl rfl rfl) ?_
  refine AOps_store1 _ _ _ _ _ _ (colD (⟨(⟨p0.p, Col.zero.k, Col.zero.e⟩ : Col).p, p0.k, (⟨p0.p, Col.zero.k, Col.zero.e⟩ : Col).e⟩ : Col)) _ rfl rfl rfl rfl rfl rfl rfl Try.sizeOf2 (by rw [colD_length]; omega) (colD_set1 _ _) ?_
  refine AOps_nil ?_
  refine ACode_seq (ACode_region ?_)
  refine AOps_q 10 _ rfl rfl rfl (QOp_fieldAddr_pv _ _ _ _ _ 2 _ _ rfl Try.underlying27 rfl _ Try.sizeOf25 rfl rfl) ?_
  refine AOps_q 11 _ rfl rfl rfl (QOp_loadN_pv _ _ _ _ _ _ rfl Try.isAgg25 Try.sizeOf25 rfl (colD_edges _) (byD_length _)) ?_
  obtain ⟨r1, hr1, h⟩ := bindO h
  refine AOps_call [] 12 _ _ _ _ _ _ _ _ _ _ rfl rfl rfl rfl rfl rfl rfl Try.call38 rfl (nodupB_sound _ rfl) rfl rfl rfl (laws_toByteA136_ac k p0.e _ hr1) ?_
  rintro _ _ ⟨rfl, rfl⟩
  refine ⟨(fun _ h => nomatch h), (allc (trivial) (fun _ h => nomatch h)), AOps_as 12 (v' := .d (.agg (byD r1))) (H' := [.box (colD Col.zero), .box (colD (⟨(⟨p0.p, Col.zero.k, Col.zero.e⟩ : Col).p, p0.k, (⟨p0.p, Col.zero.k, Col.zero.e⟩ : Col).e⟩ : Col))]) rfl rfl ?_⟩
  refine AOps_q 13 _ rfl rfl rfl (QOp_fieldAddr_ptr _ _ _ _ _ _ 2 _ _ rfl Try.underlying31 rfl _ Try.sizeOf25 rfl rfl rfl rfl) ?_
  refine AOps_store _ _ _ _ _ _ (byD _) _ _ rfl rfl rfl rfl rfl rfl rfl (byD_one _) (by rw [byD_length]; exact Try.sizeOf25) (by rw [colD_length, byD_length]; decide) (colD_setA _ _) ?_
  refine AOps_nil ?_
  refine ACode_seq (ACode_region ?_)
  refine AOps_q 14 _ rfl rfl rfl (QOp_loadN_ptr _ _ _ _ _ _ _ rfl Try.isAgg31 Try.sizeOf31 rfl rfl (colD_all _) (colD_length _)) ?_
  refine AOps_store _ _ _ _ _ _ (colD _) _ _ rfl rfl rfl rfl rfl rfl rfl (colD_one _) (by rw [colD_length]; exact Try.sizeOf31) (by rw [colD_length, colD_length]; decide) (colD_whole _ _) ?_
  refine AOps_nil ?_
  refine ACode_ret ?_
  cases h
  exact ⟨_, _, fun r a w h => ⟨r, h⟩, _, _, [], _, (.cons (ResV_agg _ _ _ _ _ _ Try.isAgg31 Try.sizeOf31 rfl rfl (colD_take _) (colD_length _)) .nil), rfl, rfl, rfl, rfl, rfl⟩

-- loop.example/g01362/laws.toDesk
def laws_toDesk (k : Nat) (p0 : Desk) : Option (Desk) :=
  (laws_toColouring k p0.f).bind fun r1 => (laws_toColouring k p0.s).bind fun r2 => some (⟨(⟨r1, Desk.zero.s⟩ : Desk).f, r2⟩ : Desk)
set_option maxRecDepth 100000 in
theorem laws_toDesk_ac (k : Nat) (p0 : Desk) (r : Desk) (h : laws_toDesk k p0 = some r) : AC Try.prog 13 [.d (.agg (deskD p0))] [] (fun res H' => res = [.d (.agg (deskD r))] ∧ H' = []) := by
  refine AC_of_body true Try.func13 rfl Try.ntmps13 (rvs := [.cell 2 33]) rfl rfl (fun G hG => ?_)
  have hm : G.H.length = 0 := by rw [hG]; rfl
  unfold laws_toDesk at h
  refine ACode_seq (ACode_region ?_)
  refine AOps_boxI 1 _ _ (.agg (deskD p0)) (deskD p0) rfl (deskD_one _) rfl rfl rfl rfl rfl ?_
  refine AOps_alloc 2 _ _ (deskD Desk.zero) (zero_of Try.typeInfo33 rfl) (by rfl) rfl rfl rfl rfl ?_
  refine AOps_nil ?_
  refine ACode_seq (ACode_region ?_)
  refine AOps_alloc 3 _ _ (deskD Desk.zero) (zero_of Try.typeInfo33 rfl) (by rfl) rfl rfl rfl rfl ?_
  refine AOps_nil ?_
  refine ACode_seq (ACode_region ?_)
  refine AOps_q 4 _ rfl rfl rfl (QOp_fieldAddr_pv _ _ _ _ _ 0 _ _ rfl Try.underlying29 rfl _ Try.sizeOf27 rfl rfl) ?_
  refine AOps_q 5 _ rfl rfl rfl (QOp_loadN_pv _ _ _ _ _ _ rfl Try.isAgg27 Try.sizeOf27 rfl (deskD_f _) (colD_length _)) ?_
  obtain ⟨r1, hr1, h⟩ := bindO h
  refine AOps_call [] 6 _ _ _ _ _ _ _ _ _ _ rfl rfl rfl rfl rfl rfl rfl Try.call21 rfl (nodupB_sound _ rfl) rfl rfl rfl (laws_toColouring_ac k p0.f _ hr1) ?_
  rintro _ _ ⟨rfl, rfl⟩
  refine ⟨(fun _ h => nomatch h), (allc (trivial) (fun _ h => nomatch h)), AOps_as 6 (v' := .d (.agg (colD r1))) (H' := [.box (deskD Desk.zero), .box (deskD Desk.zero)]) rfl rfl ?_⟩
  refine AOps_q 7 _ rfl rfl rfl (QOp_fieldAddr_ptr _ _ _ _ _ _ 0 _ _ rfl Try.underlying33 rfl _ Try.sizeOf31 rfl rfl rfl rfl) ?_
  refine AOps_store _ _ _ _ _ _ (colD _) _ _ rfl rfl rfl rfl rfl rfl rfl (colD_one _) (by rw [colD_length]; exact Try.sizeOf31) (by rw [deskD_length, colD_length]; decide) (deskD_setF _ _) ?_
  refine AOps_nil ?_
  refine ACode_seq (ACode_region ?_)
  refine AOps_q 8 _ rfl rfl rfl (QOp_fieldAddr_pv _ _ _ _ _ 138 _ _ rfl Try.underlying29 rfl _ Try.sizeOf27 rfl rfl) ?_
  refine AOps_q 9 _ rfl rfl rfl (QOp_loadN_pv _ _ _ _ _ _ rfl Try.isAgg27 Try.sizeOf27 rfl (deskD_s _) (colD_length _)) ?_
  obtain ⟨r2, hr2, h⟩ := bindO h
  refine AOps_call [] 10 _ _ _ _ _ _ _ _ _ _ rfl rfl rfl rfl rfl rfl rfl Try.call21 rfl (nodupB_sound _ rfl) rfl rfl rfl (laws_toColouring_ac k p0.s _ hr2) ?_
  rintro _ _ ⟨rfl, rfl⟩
  refine ⟨(fun _ h => nomatch h), (allc (trivial) (fun _ h => nomatch h)), AOps_as 10 (v' := .d (.agg (colD r2))) (H' := [.box (deskD Desk.zero), .box (deskD (⟨r1, Desk.zero.s⟩ : Desk))]) rfl rfl ?_⟩
  refine AOps_q 11 _ rfl rfl rfl (QOp_fieldAddr_ptr _ _ _ _ _ _ 138 _ _ rfl Try.underlying33 rfl _ Try.sizeOf31 rfl rfl rfl rfl) ?_
  refine AOps_store _ _ _ _ _ _ (colD _) _ _ rfl rfl rfl rfl rfl rfl rfl (colD_one _) (by rw [colD_length]; exact Try.sizeOf31) (by rw [deskD_length, colD_length]; decide) (deskD_setS _ _) ?_
  refine AOps_nil ?_
  refine ACode_seq (ACode_region ?_)
  refine AOps_q 12 _ rfl rfl rfl (QOp_loadN_ptr _ _ _ _ _ _ _ rfl Try.isAgg33 Try.sizeOf33 rfl rfl (deskD_all _) (deskD_length _)) ?_
  refine AOps_store _ _ _ _ _ _ (deskD _) _ _ rfl rfl rfl rfl rfl rfl rfl (deskD_one _) (by rw [deskD_length]; exact Try.sizeOf33) (by rw [deskD_length, deskD_length]; decide) (deskD_whole _ _) ?_
  refine AOps_nil ?_
  refine ACode_ret ?_
  cases h
  exact ⟨_, _, fun r a w h => ⟨r, h⟩, _, _, [], _, (.cons (ResV_agg _ _ _ _ _ _ Try.isAgg33 Try.sizeOf33 rfl rfl (deskD_take _) (deskD_length _)) .nil), rfl, rfl, rfl, rfl, rfl⟩

-- loop.example/g01362/spec.l01In
def spec_l01In (p0 : Int) (p1 : Int) (p2 : Int) : Bool :=
  letO (if decide (p1 ≤ p0) then decide (p0 ≤ p2) else false) fun (s2 : Bool) => s2
set_option maxRecDepth 100000 in
theorem spec_l01In_ac (p0 : Int) (p1 : Int) (p2 : Int) : AC Try.prog 23 [iV p0, iV p1, iV p2] [] (fun res H' => res = [bV (spec_l01In p0 p1 p2)] ∧ H' = []) := by
  refine AC_of_body true Try.func23 rfl Try.ntmps23 (rvs := [.tmp 6]) rfl rfl (fun G hG => ?_)
  have hm : G.H.length = 0 := by rw [hG]; rfl
  obtain ⟨r, h⟩ : ∃ r, spec_l01In p0 p1 p2 = r := ⟨_, rfl⟩
  rw [h]
  unfold spec_l01In at h
  refine ACode_seq (ACode_region ?_)
  refine AOps_q 6 _ rfl rfl rfl (QOp_assign _ _ rfl rfl) ?_
  refine AOps_nil ?_
  obtain ⟨s2, hss2, hks2⟩ := letS h
  clear h
  refine ACode_seqJ (fun E' H' => Weak 15 G E' H' [(6, bV s2)] []) ?_ ?_
  · have h := hss2
    clear hss2
    refine (ACode_region ?_)
    refine AOps_q 7 _ rfl rfl rfl (QOp_move _ _ rfl rfl) ?_
    refine AOps_q 8 _ rfl rfl rfl (QOp_move _ _ rfl rfl) ?_
    refine AOps_q 9 _ rfl rfl rfl (QOp_geq _ _ _ _ _ _ _ rfl rfl rfl) ?_
    refine AOps_q 10 _ rfl rfl rfl (QOp_move _ _ rfl rfl) ?_
    refine AOps_case 10 _ rfl (fun hb1 => ?_) (fun hb1 => ?_)
    · have h := iteT hb1 h
      refine AOps_q 11 _ rfl rfl rfl (QOp_move _ _ rfl rfl) ?_
      refine AOps_q 12 _ rfl rfl rfl (QOp_move _ _ rfl rfl) ?_
      refine AOps_q 13 _ rfl rfl rfl (QOp_leq _ _ _ _ _ _ _ rfl rfl rfl) ?_
      refine AOps_q 14 _ rfl rfl rfl (QOp_pick_t _ _ _ _ rfl rfl rfl) ?_
      refine AOps_q 6 _ rfl rfl rfl (QOp_assign _ _ rfl rfl) ?_
      refine AOps_nil ?_
      cases h
      exact Weak_keep 0 hm [6] [] _ _ rfl rfl rfl
    · have h := iteF hb1 h
      refine AOps_skip 11 rfl rfl rfl ?_
      refine AOps_skip 12 rfl rfl rfl ?_
      refine AOps_skip 13 rfl rfl rfl ?_
      refine AOps_q 14 _ rfl rfl rfl (QOp_pick_f _ _ _ _ rfl rfl rfl) ?_
      refine AOps_q 6 _ rfl rfl rfl (QOp_assign _ _ rfl rfl) ?_
      refine AOps_nil ?_
      cases h
      exact Weak_keep 0 hm [6] [] _ _ rfl rfl rfl
  intro E' H' hw
  refine ACode_weak hw ?_
  have h := hks2
  refine ACode_ret ?_
  cases h
  exact ⟨_, _, fun r a w h => ⟨r, h⟩, _, _, [], _, (.cons (ResV_tmp _ _ rfl) .nil), rfl, rfl, rfl, rfl, rfl⟩

-- loop.example/g01362/spec.l01Is
def spec_l01Is_l0 (k : Nat) (p0 : Col) : Nat → Int → Option (Sum (Unit) (Bool))
  | 0, _ => none
  | k0 + 1, x7 => (if decide (x7 < 136) then (((if decide (x7 < w64 ((w64 (p0.p * (w64 (p0.p - 1)))).tdiv 2)) then (if 0 ≤ x7 ∧ x7 < 136 then (if decide (p0.k ≤ ((p0.get x7.toNat).toNat : Int)) then some true else (if decide (w64 ((w64 (p0.p * (w64 (p0.p - 1)))).tdiv 2) ≤ x7) then (if 0 ≤ x7 ∧ x7 < 136 then some (!decide (((p0.get x7.toNat).toNat : Int) = 0)) else none) else some false)) else none) else (if decide (w64 ((w64 (p0.p * (w64 (p0.p - 1)))).tdiv 2) ≤ x7) then (if 0 ≤ x7 ∧ x7 < 136 then some (!decide (((p0.get x7.toNat).toNat : Int) = 0)) else none) else some false)) : Option (Bool)).bind fun s16 => (if s16 then (some (.inr false)).bind fun rr => some (.inr rr) else some (.inl ())) : Option (Sum (Unit) (Sum (Unit) (Bool)))).bind fun os18 => (match os18 with | .inl s18 => spec_l01Is_l0 k p0 k0 (w64 (x7 + 1)) | .inr rr => some rr) else some (.inl ()))
def spec_l01Is (k : Nat) (p0 : Col) : Option (Bool) :=
  (letO (if !(spec_l01In p0.p 1 17) then true else !(spec_l01In p0.k 1 4)) fun (s4 : Bool) => (if s4 then some (.inr false) else some (.inl ())) : Option (Sum (Unit) (Bool))).bind fun os6 => (match os6 with | .inl s6 => (spec_l01Is_l0 k p0 k 0 : Option (Sum (Unit) (Bool))).bind fun os19 => (match os19 with | .inl s19 => some true | .inr rr => some rr) | .inr rr => some rr)
set_option maxRecDepth 100000 in
theorem spec_l01Is_ac (k : Nat) (p0 : Col) (r : Bool) (h : spec_l01Is k p0 = some r) : AC Try.prog 28 [.d (.agg (colD p0))] [] (fun res H' => res = [bV r] ∧ H' = []) := by
  refine AC_of_body true Try.func28 rfl Try.ntmps28 (rvs := [.tmp 2]) rfl rfl (fun G hG => ?_)
  have hm : G.H.length = 0 := by rw [hG]; rfl
  unfold spec_l01Is at h
  refine ACode_seq (ACode_region ?_)
  refine AOps_boxI 1 _ _ (.agg (colD p0)) (colD p0) rfl (colD_one _) rfl rfl rfl rfl rfl ?_
  refine AOps_q 2 _ rfl rfl rfl (QOp_assign _ _ rfl rfl) ?_
  refine AOps_nil ?_
  obtain ⟨os6, hss6, hks6⟩ := bindO h
  clear h
  refine ACode_seqJ (fun E' H' => ∃ s6 : Unit, os6 = .inl s6 ∧ Weak 51 G E' H' [(1, .d (.pv (colD p0) 0))] []) ?_ ?_
  · have h := hss6
    clear hss6
    obtain ⟨s4, hss4, hks4⟩ := letS h
    clear h
    refine ACode_seqJ (fun E' H' => Weak 51 G E' H' [(1, .d (.pv (colD p0) 0)), (14, bV s4)] []) ?_ ?_
    · have h := hss4
      clear hss4
      refine (ACode_region ?_)
      refine AOps_q 5 _ rfl rfl rfl (QOp_fieldAddr_pv _ _ _ _ _ 0 _ _ rfl Try.underlying31 rfl _ Try.sizeOf2 rfl rfl) ?_
      refine AOps_q 6 _ rfl rfl rfl (QOp_load_pv _ _ _ _ _ rfl Try.isAgg2 rfl rfl) ?_
      refine AOps_call [] 7 _ _ _ _ _ _ _ _ _ _ rfl rfl rfl rfl rfl rfl rfl Try.call23 rfl (nodupB_sound _ rfl) rfl rfl rfl (spec_l01In_ac p0.p 1 17) ?_
      rintro _ _ ⟨rfl, rfl⟩
      refine ⟨(fun _ h => nomatch h), (allc (trivial) (fun _ h => nomatch h)), AOps_as 7 (v' := bV (spec_l01In p0.p 1 17)) (H' := []) rfl rfl ?_⟩
      refine AOps_q 8 _ rfl rfl rfl (QOp_not _ _ _ rfl rfl) ?_
      refine AOps_q 9 _ rfl rfl rfl (QOp_move _ _ rfl rfl) ?_
      refine AOps_case 9 _ rfl (fun hb2 => ?_) (fun hb2 => ?_)
      · have h := iteT hb2 h
        refine AOps_skip 10 rfl rfl rfl ?_
        refine AOps_skip 11 rfl rfl rfl ?_
        refine AOps_skip 12 rfl rfl rfl ?_
        refine AOps_skip 13 rfl rfl rfl ?_
        refine AOps_q 14 _ rfl rfl rfl (QOp_pick_t _ _ _ _ rfl rfl rfl) ?_
        refine AOps_nil ?_
        cases h
        exact Weak_keep 0 hm [1, 14] [] _ _ rfl rfl rfl
      · have h := iteF hb2 h
        refine AOps_q 10 _ rfl rfl rfl (QOp_fieldAddr_pv _ _ _ _ _ 1 _ _ rfl Try.underlying31 rfl _ Try.sizeOf2 rfl rfl) ?_
        refine AOps_q 11 _ rfl rfl rfl (QOp_load_pv _ _ _ _ _ rfl Try.isAgg2 rfl rfl) ?_
        refine AOps_call [] 12 _ _ _ _ _ _ _ _ _ _ rfl rfl rfl rfl rfl rfl rfl Try.call23 rfl (nodupB_sound _ rfl) rfl rfl rfl (spec_l01In_ac p0.k 1 4) ?_
        rintro _ _ ⟨rfl, rfl⟩
        refine ⟨(fun _ h => nomatch h), (allc (trivial) (fun _ h => nomatch h)), AOps_as 12 (v' := bV (spec_l01In p0.k 1 4)) (H' := []) rfl rfl ?_⟩
        refine AOps_q 13 _ rfl rfl rfl (QOp_not _ _ _ rfl rfl) ?_
        refine AOps_q 14 _ rfl rfl rfl (QOp_pick_f _ _ _ _ rfl rfl rfl) ?_
        refine AOps_nil ?_
        cases h
        exact Weak_keep 0 hm [1, 14] [] _ _ rfl rfl rfl
    intro E' H' hw
    refine ACode_weak hw ?_
    have h := hks4
    refine ACode_cond _ rfl (fun hb5 => ?_) (fun hb5 => ?_)
    · have h := iteT hb5 h
      refine ACode_seq (ACode_region ?_)
      refine AOps_q 2 _ rfl rfl rfl (QOp_assign _ _ rfl rfl) ?_
      refine AOps_nil ?_
      refine ACode_ret ?_
      cases h
      have h := hks6
      cases h
      exact ⟨_, _, fun r a w h => ⟨r, h⟩, _, _, [], _, (.cons (ResV_tmp _ _ rfl) .nil), rfl, rfl, rfl, rfl, rfl⟩
    · have h := iteF hb5 h
      refine ACode_skip ?_
      cases h
      exact ⟨_, rfl, Weak_keep 0 hm [1] [] _ _ rfl rfl rfl⟩
  rintro E' H' ⟨s6, rfl, hw⟩
  refine ACode_weak hw ?_
  have h := hks6
  refine ACode_seq (ACode_region ?_)
  refine AOps_q 15 _ rfl rfl rfl (QOp_fieldAddr_pv _ _ _ _ _ 0 _ _ rfl Try.underlying31 rfl _ Try.sizeOf2 rfl rfl) ?_
  refine AOps_q 16 _ rfl rfl rfl (QOp_load_pv _ _ _ _ _ rfl Try.isAgg2 rfl rfl) ?_
  refine AOps_q 17 _ rfl rfl rfl (QOp_fieldAddr_pv _ _ _ _ _ 0 _ _ rfl Try.underlying31 rfl _ Try.sizeOf2 rfl rfl) ?_
  refine AOps_q 18 _ rfl rfl rfl (QOp_load_pv _ _ _ _ _ rfl Try.isAgg2 rfl rfl) ?_
  refine AOps_q 19 _ rfl rfl rfl (QOp_sub _ _ _ _ _ _ _ rfl rfl rfl) ?_
  refine AOps_q 20 _ rfl rfl rfl (QOp_mul _ _ _ _ _ _ _ rfl rfl rfl) ?_
  refine AOps_q 21 _ rfl rfl rfl (QOp_quo _ _ _ _ _ _ _ (by decide) rfl rfl rfl) ?_
  refine AOps_q 3 _ rfl rfl rfl (QOp_assign _ _ rfl rfl) ?_
  refine AOps_nil ?_
  obtain ⟨os19, hss19, hks19⟩ := bindO h
  clear h
  refine ACode_seqJ (fun E' H' => ∃ s19 : Unit, os19 = .inl s19 ∧ Weak 51 G E' H' [] []) ?_ ?_
  · have h := hss19
    clear hss19
    refine ACode_seq (ACode_region ?_)
    refine AOps_q 4 _ rfl rfl rfl (QOp_assign _ _ rfl rfl) ?_
    refine AOps_nil ?_
    refine ACode_block ?_
    refine ACode_loopW (fun k0 E H => ∃ (x7 : Int), E = [(1, .d (.pv (colD p0) 0)), (3, iV (w64 ((w64 (p0.p * (w64 (p0.p - 1)))).tdiv 2))), (4, iV x7)] ∧ H = [] ∧ spec_l01Is_l0 k p0 k0 x7 = some os19) k _ _ (Weak_keep 0 hm [1, 3, 4] [] _ _ rfl rfl rfl) ⟨_, rfl, rfl, h⟩ ?_
    clear h
    rintro k0 E H ⟨x7, rfl, rfl, h⟩
    cases k0 with
    | zero => cases (show (none : Option (Sum (Unit) (Bool))) = some _ from h)
    | succ k0 =>
      rw [spec_l01Is_l0] at h
      refine ACode_seq ?_
      refine ACode_seq (ACode_region ?_)
      refine AOps_q 22 _ rfl rfl rfl (QOp_move _ _ rfl rfl) ?_
      refine AOps_q 23 _ rfl rfl rfl (QOp_lss _ _ _ _ _ _ _ rfl rfl rfl) ?_
      refine AOps_nil ?_
      refine ACode_cond _ rfl (fun hb8 => ?_) (fun hb8 => ?_)
      · have h := iteT hb8 h
        refine ACode_skip ?_
        obtain ⟨os18, hss18, hks18⟩ := bindO h
        clear h
        refine ACode_seqJ (fun E' H' => ∃ s18 : Unit, os18 = .inl s18 ∧ Weak 51 G E' H' [(1, .d (.pv (colD p0) 0)), (3, iV (w64 ((w64 (p0.p * (w64 (p0.p - 1)))).tdiv 2))), (4, iV x7)] []) ?_ ?_
        · have h := hss18
          clear hss18
          refine ACode_block ?_
          obtain ⟨s16, hss16, hks16⟩ := bindO h
          clear h
          refine ACode_seqJ (fun E' H' => Weak 51 G E' H' [(1, .d (.pv (colD p0) 0)), (3, iV (w64 ((w64 (p0.p * (w64 (p0.p - 1)))).tdiv 2))), (4, iV x7), (50, bV s16)] []) ?_ ?_
          · have h := hss16
            clear hss16
            refine (ACode_quiet mixed (by kernel_rfl) ?_)
            refine AQ_q 26 _ rfl rfl rfl (QOp_move _ _ rfl rfl) ?_
            refine AQ_q 27 _ rfl rfl rfl (QOp_move _ _ rfl rfl) ?_
            refine AQ_q 28 _ rfl rfl rfl (QOp_lss _ _ _ _ _ _ _ rfl rfl rfl) ?_
            refine AQ_q 29 _ rfl rfl rfl (QOp_move _ _ rfl rfl) ?_
            refine AQ_case 29 _ rfl (fun hb9 => ?_) (fun hb9 => ?_)
            · have h := iteT hb9 h
              refine AQ_q 30 _ rfl rfl rfl (QOp_move _ _ rfl rfl) ?_
              refine AQ_q 31 _ rfl rfl rfl (QOp_fieldAddr_pv _ _ _ _ _ 2 _ _ rfl Try.underlying31 rfl _ Try.sizeOf25 rfl rfl) ?_
              obtain ⟨hc10, h⟩ := guardO h
              refine AQ_q 32 _ rfl rfl rfl (QOp_indexAddrA_pv _ _ _ _ _ _ _ _ _ rfl Try.underlying25 Try.sizeOf5 hc10.1 hc10.2 rfl rfl) ?_
              refine AQ_q 33 _ rfl rfl rfl (QOp_load_pv _ _ _ _ _ rfl Try.isAgg5 rfl (colD_get _ _ (by omega))) ?_
              refine AQ_q 34 _ rfl rfl rfl (QOp_fromByte _ _ _ _ _ rfl rfl Try.underlying2 wrap_i64_byte rfl) ?_
              refine AQ_q 35 _ rfl rfl rfl (QOp_fieldAddr_pv _ _ _ _ _ 1 _ _ rfl Try.underlying31 rfl _ Try.sizeOf2 rfl rfl) ?_
              refine AQ_q 36 _ rfl rfl rfl (QOp_load_pv _ _ _ _ _ rfl Try.isAgg2 rfl rfl) ?_
              refine AQ_q 37 _ rfl rfl rfl (QOp_geq _ _ _ _ _ _ _ rfl rfl rfl) ?_
              refine AQ_q 38 _ rfl rfl rfl (QOp_pick_t _ _ _ _ rfl rfl rfl) ?_
              refine AQ_q 39 _ rfl rfl rfl (QOp_move _ _ rfl rfl) ?_
              refine AQ_case 39 _ rfl (fun hb11 => ?_) (fun hb11 => ?_)
              · have h := iteT hb11 h
                refine AQ_skip 40 rfl rfl rfl ?_
                refine AQ_skip 41 rfl rfl rfl ?_
                refine AQ_skip 42 rfl rfl rfl ?_
                refine AQ_skip 43 rfl rfl rfl ?_
                refine AQ_skip 44 rfl rfl rfl ?_
                refine AQ_skip 45 rfl rfl rfl ?_
                refine AQ_skip 46 rfl rfl rfl ?_
                refine AQ_skip 47 rfl rfl rfl ?_
                refine AQ_skip 48 rfl rfl rfl ?_
                refine AQ_skip 49 rfl rfl rfl ?_
                refine AQ_q 50 _ rfl rfl rfl (QOp_pick_t _ _ _ _ rfl rfl rfl) ?_
                refine AQ_nil ?_
                cases h
                exact Weak_keep 0 hm [1, 3, 4, 50] [] _ _ rfl rfl rfl
              · have h := iteF hb11 h
                refine AQ_q 40 _ rfl rfl rfl (QOp_move _ _ rfl rfl) ?_
                refine AQ_q 41 _ rfl rfl rfl (QOp_move _ _ rfl rfl) ?_
                refine AQ_q 42 _ rfl rfl rfl (QOp_geq _ _ _ _ _ _ _ rfl rfl rfl) ?_
                refine AQ_q 43 _ rfl rfl rfl (QOp_move _ _ rfl rfl) ?_
                refine AQ_case 43 _ rfl (fun hb12 => ?_) (fun hb12 => ?_)
                · have h := iteT hb12 h
                  refine AQ_q 44 _ rfl rfl rfl (QOp_move _ _ rfl rfl) ?_
                  refine AQ_q 45 _ rfl rfl rfl (QOp_fieldAddr_pv _ _ _ _ _ 2 _ _ rfl Try.underlying31 rfl _ Try.sizeOf25 rfl rfl) ?_
                  obtain ⟨hc13, h⟩ := guardO h
                  refine AQ_q 46 _ rfl rfl rfl (QOp_indexAddrA_pv _ _ _ _ _ _ _ _ _ rfl Try.underlying25 Try.sizeOf5 hc13.1 hc13.2 rfl rfl) ?_
                  refine AQ_q 47 _ rfl rfl rfl (QOp_load_pv _ _ _ _ _ rfl Try.isAgg5 rfl (colD_get _ _ (by omega))) ?_
                  refine AQ_q 48 _ rfl rfl rfl (QOp_neq _ _ _ _ _ _ _ rfl rfl rfl) ?_
                  refine AQ_q 49 _ rfl rfl rfl (QOp_pick_t _ _ _ _ rfl rfl rfl) ?_
                  refine AQ_q 50 _ rfl rfl rfl (QOp_pick_f _ _ _ _ rfl rfl rfl) ?_
                  refine AQ_nil ?_
                  cases h
                  exact Weak_keep 0 hm [1, 3, 4, 50] [] _ _ rfl rfl rfl
                · have h := iteF hb12 h
                  refine AQ_skip 44 rfl rfl rfl ?_
                  refine AQ_skip 45 rfl rfl rfl ?_
                  refine AQ_skip 46 rfl rfl rfl ?_
                  refine AQ_skip 47 rfl rfl rfl ?_
                  refine AQ_skip 48 rfl rfl rfl ?_
                  refine AQ_q 49 _ rfl rfl rfl (QOp_pick_f _ _ _ _ rfl rfl rfl) ?_
                  refine AQ_q 50 _ rfl rfl rfl (QOp_pick_f _ _ _ _ rfl rfl rfl) ?_
                  refine AQ_nil ?_
                  cases h
                  exact Weak_keep 0 hm [1, 3, 4, 50] [] _ _ rfl rfl rfl
            · have h := iteF hb9 h
              refine AQ_skip 30 rfl rfl rfl ?_
              refine AQ_skip 31 rfl rfl rfl ?_
              refine AQ_skip 32 rfl rfl rfl ?_
              refine AQ_skip 33 rfl rfl rfl ?_
              refine AQ_skip 34 rfl rfl rfl ?_
              refine AQ_skip 35 rfl rfl rfl ?_
              refine AQ_skip 36 rfl rfl rfl ?_
              refine AQ_skip 37 rfl rfl rfl ?_
              refine AQ_q 38 _ rfl rfl rfl (QOp_pick_f _ _ _ _ rfl rfl rfl) ?_
              refine AQ_q 39 _ rfl rfl rfl (QOp_move _ _ rfl rfl) ?_
              refine AQ_q 40 _ rfl rfl rfl (QOp_move _ _ rfl rfl) ?_
              refine AQ_q 41 _ rfl rfl rfl (QOp_move _ _ rfl rfl) ?_
              refine AQ_q 42 _ rfl rfl rfl (QOp_geq _ _ _ _ _ _ _ rfl rfl rfl) ?_
              refine AQ_q 43 _ rfl rfl rfl (QOp_move _ _ rfl rfl) ?_
              refine AQ_case 43 _ rfl (fun hb14 => ?_) (fun hb14 => ?_)
              · have h := iteT hb14 h
                refine AQ_q 44 _ rfl rfl rfl (QOp_move _ _ rfl rfl) ?_
                refine AQ_q 45 _ rfl rfl rfl (QOp_fieldAddr_pv _ _ _ _ _ 2 _ _ rfl Try.underlying31 rfl _ Try.sizeOf25 rfl rfl) ?_
                obtain ⟨hc15, h⟩ := guardO h
                refine AQ_q 46 _ rfl rfl rfl (QOp_indexAddrA_pv _ _ _ _ _ _ _ _ _ rfl Try.underlying25 Try.sizeOf5 hc15.1 hc15.2 rfl rfl) ?_
                refine AQ_q 47 _ rfl rfl rfl (QOp_load_pv _ _ _ _ _ rfl Try.isAgg5 rfl (colD_get _ _ (by omega))) ?_
                refine AQ_q 48 _ rfl rfl rfl (QOp_neq _ _ _ _ _ _ _ rfl rfl rfl) ?_
                refine AQ_q 49 _ rfl rfl rfl (QOp_pick_t _ _ _ _ rfl rfl rfl) ?_
                refine AQ_q 50 _ rfl rfl rfl (QOp_pick_f _ _ _ _ rfl rfl rfl) ?_
                refine AQ_nil ?_
                cases h
                exact Weak_keep 0 hm [1, 3, 4, 50] [] _ _ rfl rfl rfl
              · have h := iteF hb14 h
                refine AQ_skip 44 rfl rfl rfl ?_
                refine AQ_skip 45 rfl rfl rfl ?_
                refine AQ_skip 46 rfl rfl rfl ?_
                refine AQ_skip 47 rfl rfl rfl ?_
                refine AQ_skip 48 rfl rfl rfl ?_
                refine AQ_q 49 _ rfl rfl rfl (QOp_pick_f _ _ _ _ rfl rfl rfl) ?_
                refine AQ_q 50 _ rfl rfl rfl (QOp_pick_f _ _ _ _ rfl rfl rfl) ?_
                refine AQ_nil ?_
                cases h
                exact Weak_keep 0 hm [1, 3, 4, 50] [] _ _ rfl rfl rfl
          intro E' H' hw
          refine ACode_weak hw ?_
          have h := hks16
          refine ACode_cond _ rfl (fun hb17 => ?_) (fun hb17 => ?_)
          · have h := iteT hb17 h
            refine ACode_seq (ACode_region ?_)
            refine AOps_q 2 _ rfl rfl rfl (QOp_assign _ _ rfl rfl) ?_
            refine AOps_nil ?_
            refine ACode_ret ?_
            obtain ⟨rr, hz20, h2⟩ := bindO h
            obtain rfl := Option.some.inj h2
            obtain rfl := Option.some.inj (show some rr = some _ from hks18)
            have h := hz20
            cases h
            have h := hks19
            cases h
            exact ⟨_, _, fun r a w h => ⟨r, h⟩, _, _, [], _, (.cons (ResV_tmp _ _ rfl) .nil), rfl, rfl, rfl, rfl, rfl⟩
          · have h := iteF hb17 h
            refine ACode_skip ?_
            cases h
            exact ⟨_, rfl, Weak_keep 0 hm [1, 3, 4] [] _ _ rfl rfl rfl⟩
        rintro E' H' ⟨s18, rfl, hw⟩
        refine ACode_weak hw ?_
        have h := hks18
        refine (ACode_region ?_)
        refine AOps_q 24 _ rfl rfl rfl (QOp_move _ _ rfl rfl) ?_
        refine AOps_q 25 _ rfl rfl rfl (QOp_add _ _ _ _ _ _ _ rfl rfl rfl) ?_
        refine AOps_q 4 _ rfl rfl rfl (QOp_assign _ _ rfl rfl) ?_
        refine AOps_nil ?_
        exact ⟨k0, _, _, Nat.lt_succ_self _, Weak_keep 0 hm [1, 3, 4] [] _ _ rfl rfl rfl, _, rfl, rfl, h⟩
      · have h := iteF hb8 h
        refine ACode_exit ?_
        cases h
        exact ⟨_, rfl, Weak_keep 0 hm [] [] _ _ rfl rfl rfl⟩
  rintro E' H' ⟨s19, rfl, hw⟩
  refine ACode_weak hw ?_
  have h := hks19
  refine ACode_seq (ACode_region ?_)
  refine AOps_q 2 _ rfl rfl rfl (QOp_assign _ _ rfl rfl) ?_
  refine AOps_nil ?_
  refine ACode_ret ?_
  cases h
  exact ⟨_, _, fun r a w h => ⟨r, h⟩, _, _, [], _, (.cons (ResV_tmp _ _ rfl) .nil), rfl, rfl, rfl, rfl, rfl⟩

-- loop.example/g01362/spec.IsDesk
def spec_IsDesk (k : Nat) (p0 : Desk) : Option (Bool) :=
  ((spec_l01Is k p0.f).bind fun r1 => (if r1 then (spec_l01Is k p0.s).bind fun r3 => some r3 else some false) : Option (Bool)).bind fun s4 => some s4
set_option maxRecDepth 100000 in
theorem spec_IsDesk_ac (k : Nat) (p0 : Desk) (r : Bool) (h : spec_IsDesk k p0 = some r) : AC Try.prog 12 [.d (.agg (deskD p0))] [] (fun res H' => res = [bV r] ∧ H' = []) := by
  refine AC_of_body true Try.func12 rfl Try.ntmps12 (rvs := [.tmp 2]) rfl rfl (fun G hG => ?_)
  have hm : G.H.length = 0 := by rw [hG]; rfl
  unfold spec_IsDesk at h
  refine ACode_seq (ACode_region ?_)
  refine AOps_boxI 1 _ _ (.agg (deskD p0)) (deskD p0) rfl (deskD_one _) rfl rfl rfl rfl rfl ?_
  refine AOps_q 2 _ rfl rfl rfl (QOp_assign _ _ rfl rfl) ?_
  refine AOps_nil ?_
  obtain ⟨s4, hss4, hks4⟩ := bindO h
  clear h
  refine ACode_seqJ (fun E' H' => Weak 11 G E' H' [(2, bV s4)] []) ?_ ?_
  · have h := hss4
    clear hss4
    refine (ACode_region ?_)
    refine AOps_q 3 _ rfl rfl rfl (QOp_fieldAddr_pv _ _ _ _ _ 0 _ _ rfl Try.underlying33 rfl _ Try.sizeOf31 rfl rfl) ?_
    refine AOps_q 4 _ rfl rfl rfl (QOp_loadN_pv _ _ _ _ _ _ rfl Try.isAgg31 Try.sizeOf31 rfl (deskD_f _) (colD_length _)) ?_
    obtain ⟨r1, hr1, h⟩ := bindO h
    refine AOps_call [] 5 _ _ _ _ _ _ _ _ _ _ rfl rfl rfl rfl rfl rfl rfl Try.call28 rfl (nodupB_sound _ rfl) rfl rfl rfl (spec_l01Is_ac k p0.f _ hr1) ?_
    rintro _ _ ⟨rfl, rfl⟩
    refine ⟨(fun _ h => nomatch h), (allc (trivial) (fun _ h => nomatch h)), AOps_as 5 (v' := bV r1) (H' := []) rfl rfl ?_⟩
    refine AOps_q 6 _ rfl rfl rfl (QOp_move _ _ rfl rfl) ?_
    refine AOps_case 6 _ rfl (fun hb2 => ?_) (fun hb2 => ?_)
    · have h := iteT hb2 h
      refine AOps_q 7 _ rfl rfl rfl (QOp_fieldAddr_pv _ _ _ _ _ 138 _ _ rfl Try.underlying33 rfl _ Try.sizeOf31 rfl rfl) ?_
      refine AOps_q 8 _ rfl rfl rfl (QOp_loadN_pv _ _ _ _ _ _ rfl Try.isAgg31 Try.sizeOf31 rfl (deskD_s _) (colD_length _)) ?_
      obtain ⟨r3, hr3, h⟩ := bindO h
      refine AOps_call [] 9 _ _ _ _ _ _ _ _ _ _ rfl rfl rfl rfl rfl rfl rfl Try.call28 rfl (nodupB_sound _ rfl) rfl rfl rfl (spec_l01Is_ac k p0.s _ hr3) ?_
      rintro _ _ ⟨rfl, rfl⟩
      refine ⟨(fun _ h => nomatch h), (allc (trivial) (fun _ h => nomatch h)), AOps_as 9 (v' := bV r3) (H' := []) rfl rfl ?_⟩
      refine AOps_q 10 _ rfl rfl rfl (QOp_pick_t _ _ _ _ rfl rfl rfl) ?_
      refine AOps_q 2 _ rfl rfl rfl (QOp_assign _ _ rfl rfl) ?_
      refine AOps_nil ?_
      cases h
      exact Weak_keep 0 hm [2] [] _ _ rfl rfl rfl
    · have h := iteF hb2 h
      refine AOps_skip 7 rfl rfl rfl ?_
      refine AOps_skip 8 rfl rfl rfl ?_
      refine AOps_skip 9 rfl rfl rfl ?_
      refine AOps_q 10 _ rfl rfl rfl (QOp_pick_f _ _ _ _ rfl rfl rfl) ?_
      refine AOps_q 2 _ rfl rfl rfl (QOp_assign _ _ rfl rfl) ?_
      refine AOps_nil ?_
      cases h
      exact Weak_keep 0 hm [2] [] _ _ rfl rfl rfl
  intro E' H' hw
  refine ACode_weak hw ?_
  have h := hks4
  refine ACode_ret ?_
  cases h
  exact ⟨_, _, fun r a w h => ⟨r, h⟩, _, _, [], _, (.cons (ResV_tmp _ _ rfl) .nil), rfl, rfl, rfl, rfl, rfl⟩

-- loop.example/g01362/impl.in
def impl_in (p0 : Int) (p1 : Int) (p2 : Int) : Bool :=
  letO (if decide (p1 ≤ p0) then decide (p0 ≤ p2) else false) fun (s2 : Bool) => s2
set_option maxRecDepth 100000 in
theorem impl_in_ac (p0 : Int) (p1 : Int) (p2 : Int) : AC Try.prog 26 [iV p0, iV p1, iV p2] [] (fun res H' => res = [bV (impl_in p0 p1 p2)] ∧ H' = []) := by
  refine AC_of_body true Try.func26 rfl Try.ntmps26 (rvs := [.tmp 6]) rfl rfl (fun G hG => ?_)
  have hm : G.H.length = 0 := by rw [hG]; rfl
  obtain ⟨r, h⟩ : ∃ r, impl_in p0 p1 p2 = r := ⟨_, rfl⟩
  rw [h]
  unfold impl_in at h
  refine ACode_seq (ACode_region ?_)
  refine AOps_q 6 _ rfl rfl rfl (QOp_assign _ _ rfl rfl) ?_
  refine AOps_nil ?_
  obtain ⟨s2, hss2, hks2⟩ := letS h
  clear h
  refine ACode_seqJ (fun E' H' => Weak 15 G E' H' [(6, bV s2)] []) ?_ ?_
  · have h := hss2
    clear hss2
    refine (ACode_region ?_)
    refine AOps_q 7 _ rfl rfl rfl (QOp_move _ _ rfl rfl) ?_
    refine AOps_q 8 _ rfl rfl rfl (QOp_move _ _ rfl rfl) ?_
    refine AOps_q 9 _ rfl rfl rfl (QOp_geq _ _ _ _ _ _ _ rfl rfl rfl) ?_
    refine AOps_q 10 _ rfl rfl rfl (QOp_move _ _ rfl rfl) ?_
    refine AOps_case 10 _ rfl (fun hb1 => ?_) (fun hb1 => ?_)
    · have h := iteT hb1 h
      refine AOps_q 11 _ rfl rfl rfl (QOp_move _ _ rfl rfl) ?_
      refine AOps_q 12 _ rfl rfl rfl (QOp_move _ _ rfl rfl) ?_
      refine AOps_q 13 _ rfl rfl rfl (QOp_leq _ _ _ _ _ _ _ rfl rfl rfl) ?_
      refine AOps_q 14 _ rfl rfl rfl (QOp_pick_t _ _ _ _ rfl rfl rfl) ?_
      refine AOps_q 6 _ rfl rfl rfl (QOp_assign _ _ rfl rfl) ?_
      refine AOps_nil ?_
      cases h
      exact Weak_keep 0 hm [6] [] _ _ rfl rfl rfl
    · have h := iteF hb1 h
      refine AOps_skip 11 rfl rfl rfl ?_
      refine AOps_skip 12 rfl rfl rfl ?_
      refine AOps_skip 13 rfl rfl rfl ?_
      refine AOps_q 14 _ rfl rfl rfl (QOp_pick_f _ _ _ _ rfl rfl rfl) ?_
      refine AOps_q 6 _ rfl rfl rfl (QOp_assign _ _ rfl rfl) ?_
      refine AOps_nil ?_
      cases h
      exact Weak_keep 0 hm [6] [] _ _ rfl rfl rfl
  intro E' H' hw
  refine ACode_weak hw ?_
  have h := hks2
  refine ACode_ret ?_
  cases h
  exact ⟨_, _, fun r a w h => ⟨r, h⟩, _, _, [], _, (.cons (ResV_tmp _ _ rfl) .nil), rfl, rfl, rfl, rfl, rfl⟩

-- (*loop.example/g01362/impl.Colouring).edges
def impl_Colouring_edges (p0 : Col) : Int :=
  w64 ((w64 (p0.p * (w64 (p0.p - 1)))).tdiv 2)
set_option maxRecDepth 100000 in
theorem impl_Colouring_edges_ac (p0 : Col) : AC Try.prog 50 [.d (.pv (colD p0) 0)] [] (fun res H' => res = [iV (impl_Colouring_edges p0)] ∧ H' = []) := by
  refine AC_of_body true Try.func50 rfl Try.ntmps50 (rvs := [.tmp 2]) rfl rfl (fun G hG => ?_)
  have hm : G.H.length = 0 := by rw [hG]; rfl
  obtain ⟨r, h⟩ : ∃ r, impl_Colouring_edges p0 = r := ⟨_, rfl⟩
  rw [h]
  unfold impl_Colouring_edges at h
  refine ACode_seq (ACode_region ?_)
  refine AOps_q 2 _ rfl rfl rfl (QOp_assign _ _ rfl rfl) ?_
  refine AOps_nil ?_
  refine ACode_seq (ACode_quiet mixed (by kernel_rfl) ?_)
  refine AQ_q 3 _ rfl rfl rfl (QOp_move _ _ rfl rfl) ?_
  refine AQ_q 4 _ rfl rfl rfl (QOp_nilCheck_pv _ _ _ rfl rfl) ?_
  refine AQ_q 5 _ rfl rfl rfl (QOp_fieldAddr_pv _ _ _ _ _ 0 _ _ rfl Try.underlying31 rfl _ Try.sizeOf2 rfl rfl) ?_
  refine AQ_q 6 _ rfl rfl rfl (QOp_load_pv _ _ _ _ _ rfl Try.isAgg2 rfl rfl) ?_
  refine AQ_q 7 _ rfl rfl rfl (QOp_move _ _ rfl rfl) ?_
  refine AQ_q 8 _ rfl rfl rfl (QOp_nilCheck_pv _ _ _ rfl rfl) ?_
  refine AQ_q 9 _ rfl rfl rfl (QOp_fieldAddr_pv _ _ _ _ _ 0 _ _ rfl Try.underlying31 rfl _ Try.sizeOf2 rfl rfl) ?_
  refine AQ_q 10 _ rfl rfl rfl (QOp_load_pv _ _ _ _ _ rfl Try.isAgg2 rfl rfl) ?_
  refine AQ_q 11 _ rfl rfl rfl (QOp_sub _ _ _ _ _ _ _ rfl rfl rfl) ?_
  refine AQ_q 12 _ rfl rfl rfl (QOp_mul _ _ _ _ _ _ _ rfl rfl rfl) ?_
  refine AQ_q 13 _ rfl rfl rfl (QOp_quo _ _ _ _ _ _ _ (by decide) rfl rfl rfl) ?_
  refine AQ_q 2 _ rfl rfl rfl (QOp_assign _ _ rfl rfl) ?_
  refine AQ_nil ?_
  refine ACode_ret ?_
  cases h
  exact ⟨_, _, fun r a w h => ⟨r, h⟩, _, _, [], _, (.cons (ResV_tmp _ _ rfl) .nil), rfl, rfl, rfl, rfl, rfl⟩

-- (*loop.example/g01362/impl.Colouring).isColouring
def impl_Colouring_isColouring_l0 (k : Nat) (p0 : Col) : Nat → Int → Option (Sum (Unit) (Bool))
  | 0, _ => none
  | k0 + 1, x7 => (if decide (x7 < 136) then ((if 0 ≤ x7 ∧ x7 < 136 then letO (if decide (p0.k ≤ ((p0.e.get x7.toNat).toNat : Int)) then true else (if decide ((impl_Colouring_edges p0) ≤ x7) then !decide (((p0.e.get x7.toNat).toNat : Int) = 0) else false)) fun (s13 : Bool) => (if s13 then (some (.inr false)).bind fun rr => some (.inr rr) else some (.inl ())) else none) : Option (Sum (Unit) (Sum (Unit) (Bool)))).bind fun os15 => (match os15 with | .inl s15 => impl_Colouring_isColouring_l0 k p0 k0 (w64 (x7 + 1)) | .inr rr => some rr) else some (.inl ()))
def impl_Colouring_isColouring (k : Nat) (p0 : Col) : Option (Bool) :=
  (letO (if !(impl_in p0.p 1 17) then true else !(impl_in p0.k 1 4)) fun (s4 : Bool) => (if s4 then some (.inr false) else some (.inl ())) : Option (Sum (Unit) (Bool))).bind fun os6 => (match os6 with | .inl s6 => (impl_Colouring_isColouring_l0 k p0 k 0 : Option (Sum (Unit) (Bool))).bind fun os16 => (match os16 with | .inl s16 => some true | .inr rr => some rr) | .inr rr => some rr)
set_option maxRecDepth 100000 in
theorem impl_Colouring_isColouring_ac (k : Nat) (p0 : Col) (r : Bool) (h : impl_Colouring_isColouring k p0 = some r) : AC Try.prog 41 [.d (.pv (colD p0) 0)] [] (fun res H' => res = [bV r] ∧ H' = []) := by
  refine AC_of_body true Try.func41 rfl Try.ntmps41 (rvs := [.tmp 2]) rfl rfl (fun G hG => ?_)
  have hm : G.H.length = 0 := by rw [hG]; rfl
  unfold impl_Colouring_isColouring at h
  refine ACode_seq (ACode_region ?_)
  refine AOps_q 2 _ rfl rfl rfl (QOp_assign _ _ rfl rfl) ?_
  refine AOps_nil ?_
  obtain ⟨os6, hss6, hks6⟩ := bindO h
  clear h
  refine ACode_seqJ (fun E' H' => ∃ s6 : Unit, os6 = .inl s6 ∧ Weak 45 G E' H' [(0, .d (.pv (colD p0) 0))] []) ?_ ?_
  · have h := hss6
    clear hss6
    obtain ⟨s4, hss4, hks4⟩ := letS h
    clear h
    refine ACode_seqJ (fun E' H' => Weak 45 G E' H' [(0, .d (.pv (colD p0) 0)), (18, bV s4)] []) ?_ ?_
    · have h := hss4
      clear hss4
      refine (ACode_region ?_)
      refine AOps_q 5 _ rfl rfl rfl (QOp_move _ _ rfl rfl) ?_
      refine AOps_q 6 _ rfl rfl rfl (QOp_nilCheck_pv _ _ _ rfl rfl) ?_
      refine AOps_q 7 _ rfl rfl rfl (QOp_fieldAddr_pv _ _ _ _ _ 0 _ _ rfl Try.underlying31 rfl _ Try.sizeOf2 rfl rfl) ?_
      refine AOps_q 8 _ rfl rfl rfl (QOp_load_pv _ _ _ _ _ rfl Try.isAgg2 rfl rfl) ?_
      refine AOps_call [] 9 _ _ _ _ _ _ _ _ _ _ rfl rfl rfl rfl rfl rfl rfl Try.call26 rfl (nodupB_sound _ rfl) rfl rfl rfl (impl_in_ac p0.p 1 17) ?_
      rintro _ _ ⟨rfl, rfl⟩
      refine ⟨(fun _ h => nomatch h), (allc (trivial) (fun _ h => nomatch h)), AOps_as 9 (v' := bV (impl_in p0.p 1 17)) (H' := []) rfl rfl ?_⟩
      refine AOps_q 10 _ rfl rfl rfl (QOp_not _ _ _ rfl rfl) ?_
      refine AOps_q 11 _ rfl rfl rfl (QOp_move _ _ rfl rfl) ?_
      refine AOps_case 11 _ rfl (fun hb2 => ?_) (fun hb2 => ?_)
      · have h := iteT hb2 h
        refine AOps_skip 12 rfl rfl rfl ?_
        refine AOps_skip 13 rfl rfl rfl ?_
        refine AOps_skip 14 rfl rfl rfl ?_
        refine AOps_skip 15 rfl rfl rfl ?_
        refine AOps_skip 16 rfl rfl rfl ?_
        refine AOps_skip 17 rfl rfl rfl ?_
        refine AOps_q 18 _ rfl rfl rfl (QOp_pick_t _ _ _ _ rfl rfl rfl) ?_
        refine AOps_nil ?_
        cases h
        exact Weak_keep 0 hm [0, 18] [] _ _ rfl rfl rfl
      · have h := iteF hb2 h
        refine AOps_q 12 _ rfl rfl rfl (QOp_move _ _ rfl rfl) ?_
        refine AOps_q 13 _ rfl rfl rfl (QOp_nilCheck_pv _ _ _ rfl rfl) ?_
        refine AOps_q 14 _ rfl rfl rfl (QOp_fieldAddr_pv _ _ _ _ _ 1 _ _ rfl Try.underlying31 rfl _ Try.sizeOf2 rfl rfl) ?_
        refine AOps_q 15 _ rfl rfl rfl (QOp_load_pv _ _ _ _ _ rfl Try.isAgg2 rfl rfl) ?_
        refine AOps_call [] 16 _ _ _ _ _ _ _ _ _ _ rfl rfl rfl rfl rfl rfl rfl Try.call26 rfl (nodupB_sound _ rfl) rfl rfl rfl (impl_in_ac p0.k 1 4) ?_
        rintro _ _ ⟨rfl, rfl⟩
        refine ⟨(fun _ h => nomatch h), (allc (trivial) (fun _ h => nomatch h)), AOps_as 16 (v' := bV (impl_in p0.k 1 4)) (H' := []) rfl rfl ?_⟩
        refine AOps_q 17 _ rfl rfl rfl (QOp_not _ _ _ rfl rfl) ?_
        refine AOps_q 18 _ rfl rfl rfl (QOp_pick_f _ _ _ _ rfl rfl rfl) ?_
        refine AOps_nil ?_
        cases h
        exact Weak_keep 0 hm [0, 18] [] _ _ rfl rfl rfl
    intro E' H' hw
    refine ACode_weak hw ?_
    have h := hks4
    refine ACode_cond _ rfl (fun hb5 => ?_) (fun hb5 => ?_)
    · have h := iteT hb5 h
      refine ACode_seq (ACode_region ?_)
      refine AOps_q 2 _ rfl rfl rfl (QOp_assign _ _ rfl rfl) ?_
      refine AOps_nil ?_
      refine ACode_ret ?_
      cases h
      have h := hks6
      cases h
      exact ⟨_, _, fun r a w h => ⟨r, h⟩, _, _, [], _, (.cons (ResV_tmp _ _ rfl) .nil), rfl, rfl, rfl, rfl, rfl⟩
    · have h := iteF hb5 h
      refine ACode_skip ?_
      cases h
      exact ⟨_, rfl, Weak_keep 0 hm [0] [] _ _ rfl rfl rfl⟩
  rintro E' H' ⟨s6, rfl, hw⟩
  refine ACode_weak hw ?_
  have h := hks6
  obtain ⟨os16, hss16, hks16⟩ := bindO h
  clear h
  refine ACode_seqJ (fun E' H' => ∃ s16 : Unit, os16 = .inl s16 ∧ Weak 45 G E' H' [] []) ?_ ?_
  · have h := hss16
    clear hss16
    refine ACode_seq (ACode_region ?_)
    refine AOps_q 19 _ rfl rfl rfl (QOp_move _ _ rfl rfl) ?_
    refine AOps_q 20 _ rfl rfl rfl (QOp_nilCheck_pv _ _ _ rfl rfl) ?_
    refine AOps_q 21 _ rfl rfl rfl (QOp_fieldAddr_pv _ _ _ _ _ 2 _ _ rfl Try.underlying31 rfl _ Try.sizeOf25 rfl rfl) ?_
    refine AOps_q 22 _ rfl rfl rfl (QOp_loadN_pv _ _ _ _ _ _ rfl Try.isAgg25 Try.sizeOf25 rfl (colD_edges _) (byD_length _)) ?_
    refine AOps_q 23 _ rfl rfl rfl (QOp_move _ _ rfl rfl) ?_
    refine AOps_nil ?_
    refine ACode_block ?_
    refine ACode_loopW (fun k0 E H => ∃ (x7 : Int), E = [(0, .d (.pv (colD p0) 0)), (22, .d (.agg (byD p0.e))), (23, iV x7)] ∧ H = [] ∧ impl_Colouring_isColouring_l0 k p0 k0 x7 = some os16) k _ _ (Weak_keep 0 hm [0, 22, 23] [] _ _ rfl rfl rfl) ⟨_, rfl, rfl, h⟩ ?_
    clear h
    rintro k0 E H ⟨x7, rfl, rfl, h⟩
    cases k0 with
    | zero => cases (show (none : Option (Sum (Unit) (Bool))) = some _ from h)
    | succ k0 =>
      rw [impl_Colouring_isColouring_l0] at h
      refine ACode_seq (ACode_region ?_)
      refine AOps_q 24 _ rfl rfl rfl (QOp_lss _ _ _ _ _ _ _ rfl rfl rfl) ?_
      refine AOps_nil ?_
      refine ACode_seq ?_
      refine ACode_cond _ rfl (fun hb8 => ?_) (fun hb8 => ?_)
      · have h := iteT hb8 h
        refine ACode_skip ?_
        obtain ⟨os15, hss15, hks15⟩ := bindO h
        clear h
        refine ACode_seqJ (fun E' H' => ∃ s15 : Unit, os15 = .inl s15 ∧ Weak 45 G E' H' [(0, .d (.pv (colD p0) 0)), (22, .d (.agg (byD p0.e))), (23, iV x7)] []) ?_ ?_
        · have h := hss15
          clear hss15
          refine ACode_block ?_
          refine ACode_seq (ACode_region ?_)
          refine AOps_q 25 _ rfl rfl rfl (QOp_move _ _ rfl rfl) ?_
          obtain ⟨hc9, h⟩ := guardO h
          refine AOps_q 26 _ rfl rfl rfl (QOp_index_agg _ _ _ _ _ _ _ _ _ rfl Try.underlying25 Try.sizeOf5 Try.isAgg5 hc9.1 hc9.2 rfl rfl (byD_get _ _ (by omega))) ?_
          refine AOps_q 3 _ rfl rfl rfl (QOp_assign _ _ rfl rfl) ?_
          refine AOps_q 4 _ rfl rfl rfl (QOp_assign _ _ rfl rfl) ?_
          refine AOps_nil ?_
          obtain ⟨s13, hss13, hks13⟩ := letS h
          clear h
          refine ACode_seqJ (fun E' H' => Weak 45 G E' H' [(0, .d (.pv (colD p0) 0)), (22, .d (.agg (byD p0.e))), (23, iV x7), (43, bV s13)] []) ?_ ?_
          · have h := hss13
            clear hss13
            refine (ACode_region ?_)
            refine AOps_q 27 _ rfl rfl rfl (QOp_move _ _ rfl rfl) ?_
            refine AOps_q 28 _ rfl rfl rfl (QOp_fromByte _ _ _ _ _ rfl rfl Try.underlying2 wrap_i64_byte rfl) ?_
            refine AOps_q 29 _ rfl rfl rfl (QOp_move _ _ rfl rfl) ?_
            refine AOps_q 30 _ rfl rfl rfl (QOp_nilCheck_pv _ _ _ rfl rfl) ?_
            refine AOps_q 31 _ rfl rfl rfl (QOp_fieldAddr_pv _ _ _ _ _ 1 _ _ rfl Try.underlying31 rfl _ Try.sizeOf2 rfl rfl) ?_
            refine AOps_q 32 _ rfl rfl rfl (QOp_load_pv _ _ _ _ _ rfl Try.isAgg2 rfl rfl) ?_
            refine AOps_q 33 _ rfl rfl rfl (QOp_geq _ _ _ _ _ _ _ rfl rfl rfl) ?_
            refine AOps_q 34 _ rfl rfl rfl (QOp_move _ _ rfl rfl) ?_
            refine AOps_case 34 _ rfl (fun hb10 => ?_) (fun hb10 => ?_)
            · have h := iteT hb10 h
              refine AOps_skip 35 rfl rfl rfl ?_
              refine AOps_skip 36 rfl rfl rfl ?_
              refine AOps_skip 37 rfl rfl rfl ?_
              refine AOps_skip 38 rfl rfl rfl ?_
              refine AOps_skip 39 rfl rfl rfl ?_
              refine AOps_skip 40 rfl rfl rfl ?_
              refine AOps_skip 41 rfl rfl rfl ?_
              refine AOps_skip 42 rfl rfl rfl ?_
              refine AOps_q 43 _ rfl rfl rfl (QOp_pick_t _ _ _ _ rfl rfl rfl) ?_
              refine AOps_nil ?_
              cases h
              exact Weak_keep 0 hm [0, 22, 23, 43] [] _ _ rfl rfl rfl
            · have h := iteF hb10 h
              refine AOps_q 35 _ rfl rfl rfl (QOp_move _ _ rfl rfl) ?_
              refine AOps_q 36 _ rfl rfl rfl (QOp_move _ _ rfl rfl) ?_
              refine AOps_call [] 37 _ _ _ _ _ _ _ _ _ _ rfl rfl rfl rfl rfl rfl rfl Try.call50 rfl (nodupB_sound _ rfl) rfl rfl rfl (impl_Colouring_edges_ac p0) ?_
              rintro _ _ ⟨rfl, rfl⟩
              refine ⟨(fun _ h => nomatch h), (allc (trivial) (fun _ h => nomatch h)), AOps_as 37 (v' := iV (impl_Colouring_edges p0)) (H' := []) rfl rfl ?_⟩
              refine AOps_q 38 _ rfl rfl rfl (QOp_geq _ _ _ _ _ _ _ rfl rfl rfl) ?_
              refine AOps_q 39 _ rfl rfl rfl (QOp_move _ _ rfl rfl) ?_
              refine AOps_case 39 _ rfl (fun hb12 => ?_) (fun hb12 => ?_)
              · have h := iteT hb12 h
                refine AOps_q 40 _ rfl rfl rfl (QOp_move _ _ rfl rfl) ?_
                refine AOps_q 41 _ rfl rfl rfl (QOp_neq _ _ _ _ _ _ _ rfl rfl rfl) ?_
                refine AOps_q 42 _ rfl rfl rfl (QOp_pick_t _ _ _ _ rfl rfl rfl) ?_
                refine AOps_q 43 _ rfl rfl rfl (QOp_pick_f _ _ _ _ rfl rfl rfl) ?_
                refine AOps_nil ?_
                cases h
                exact Weak_keep 0 hm [0, 22, 23, 43] [] _ _ rfl rfl rfl
              · have h := iteF hb12 h
                refine AOps_skip 40 rfl rfl rfl ?_
                refine AOps_skip 41 rfl rfl rfl ?_
                refine AOps_q 42 _ rfl rfl rfl (QOp_pick_f _ _ _ _ rfl rfl rfl) ?_
                refine AOps_q 43 _ rfl rfl rfl (QOp_pick_f _ _ _ _ rfl rfl rfl) ?_
                refine AOps_nil ?_
                cases h
                exact Weak_keep 0 hm [0, 22, 23, 43] [] _ _ rfl rfl rfl
          intro E' H' hw
          refine ACode_weak hw ?_
          have h := hks13
          refine ACode_cond _ rfl (fun hb14 => ?_) (fun hb14 => ?_)
          · have h := iteT hb14 h
            refine ACode_seq (ACode_region ?_)
            refine AOps_q 2 _ rfl rfl rfl (QOp_assign _ _ rfl rfl) ?_
            refine AOps_nil ?_
            refine ACode_ret ?_
            obtain ⟨rr, hz17, h2⟩ := bindO h
            obtain rfl := Option.some.inj h2
            obtain rfl := Option.some.inj (show some rr = some _ from hks15)
            have h := hz17
            cases h
            have h := hks16
            cases h
            exact ⟨_, _, fun r a w h => ⟨r, h⟩, _, _, [], _, (.cons (ResV_tmp _ _ rfl) .nil), rfl, rfl, rfl, rfl, rfl⟩
          · have h := iteF hb14 h
            refine ACode_skip ?_
            cases h
            exact ⟨_, rfl, Weak_keep 0 hm [0, 22, 23] [] _ _ rfl rfl rfl⟩
        rintro E' H' ⟨s15, rfl, hw⟩
        refine ACode_weak hw ?_
        have h := hks15
        refine (ACode_region ?_)
        refine AOps_q 44 _ rfl rfl rfl (QOp_add _ _ _ _ _ _ _ rfl rfl rfl) ?_
        refine AOps_q 23 _ rfl rfl rfl (QOp_move _ _ rfl rfl) ?_
        refine AOps_nil ?_
        exact ⟨k0, _, _, Nat.lt_succ_self _, Weak_keep 0 hm [0, 22, 23] [] _ _ rfl rfl rfl, _, rfl, rfl, h⟩
      · have h := iteF hb8 h
        refine ACode_exit ?_
        cases h
        exact ⟨_, rfl, Weak_keep 0 hm [] [] _ _ rfl rfl rfl⟩
  rintro E' H' ⟨s16, rfl, hw⟩
  refine ACode_weak hw ?_
  have h := hks16
  refine ACode_seq (ACode_region ?_)
  refine AOps_q 2 _ rfl rfl rfl (QOp_assign _ _ rfl rfl) ?_
  refine AOps_nil ?_
  refine ACode_ret ?_
  cases h
  exact ⟨_, _, fun r a w h => ⟨r, h⟩, _, _, [], _, (.cons (ResV_tmp _ _ rfl) .nil), rfl, rfl, rfl, rfl, rfl⟩

-- (*loop.example/g01362/impl.Desk).isDesk
def impl_Desk_isDesk (k : Nat) (p0 : Desk) : Option (Bool) :=
  ((impl_Colouring_isColouring k p0.f).bind fun r1 => (if r1 then (impl_Colouring_isColouring k p0.s).bind fun r3 => some r3 else some false) : Option (Bool)).bind fun s4 => some s4
set_option maxRecDepth 100000 in
theorem impl_Desk_isDesk_ac (k : Nat) (p0 : Desk) (r : Bool) (h : impl_Desk_isDesk k p0 = some r) : AC Try.prog 29 [.d (.pv (deskD p0) 0)] [] (fun res H' => res = [bV r] ∧ H' = []) := by
  refine AC_of_body true Try.func29 rfl Try.ntmps29 (rvs := [.tmp 2]) rfl rfl (fun G hG => ?_)
  have hm : G.H.length = 0 := by rw [hG]; rfl
  unfold impl_Desk_isDesk at h
  refine ACode_seq (ACode_region ?_)
  refine AOps_q 2 _ rfl rfl rfl (QOp_assign _ _ rfl rfl) ?_
  refine AOps_nil ?_
  obtain ⟨s4, hss4, hks4⟩ := bindO h
  clear h
  refine ACode_seqJ (fun E' H' => Weak 13 G E' H' [(2, bV s4)] []) ?_ ?_
  · have h := hss4
    clear hss4
    refine (ACode_region ?_)
    refine AOps_q 3 _ rfl rfl rfl (QOp_move _ _ rfl rfl) ?_
    refine AOps_q 4 _ rfl rfl rfl (QOp_nilCheck_pv _ _ _ rfl rfl) ?_
    refine AOps_q 5 _ rfl rfl rfl (QOp_fieldAddr_pv _ _ _ _ _ 0 _ _ rfl Try.underlying33 rfl _ Try.sizeOf31 rfl rfl) ?_
    refine AOps_pvsub 5 _ _ _ _ rfl (deskD_f _) ?_
    obtain ⟨r1, hr1, h⟩ := bindO h
    refine AOps_call [] 6 _ _ _ _ _ _ _ _ _ _ rfl rfl rfl rfl rfl rfl rfl Try.call41 rfl (nodupB_sound _ rfl) rfl rfl rfl (impl_Colouring_isColouring_ac k p0.f _ hr1) ?_
    rintro _ _ ⟨rfl, rfl⟩
    refine ⟨(fun _ h => nomatch h), (allc (trivial) (fun _ h => nomatch h)), AOps_as 6 (v' := bV r1) (H' := []) rfl rfl ?_⟩
    refine AOps_q 7 _ rfl rfl rfl (QOp_move _ _ rfl rfl) ?_
    refine AOps_case 7 _ rfl (fun hb2 => ?_) (fun hb2 => ?_)
    · have h := iteT hb2 h
      refine AOps_q 8 _ rfl rfl rfl (QOp_move _ _ rfl rfl) ?_
      refine AOps_q 9 _ rfl rfl rfl (QOp_nilCheck_pv _ _ _ rfl rfl) ?_
      refine AOps_q 10 _ rfl rfl rfl (QOp_fieldAddr_pv _ _ _ _ _ 138 _ _ rfl Try.underlying33 rfl _ Try.sizeOf31 rfl rfl) ?_
      refine AOps_pvsub 10 _ _ _ _ rfl (deskD_s _) ?_
      obtain ⟨r3, hr3, h⟩ := bindO h
      refine AOps_call [] 11 _ _ _ _ _ _ _ _ _ _ rfl rfl rfl rfl rfl rfl rfl Try.call41 rfl (nodupB_sound _ rfl) rfl rfl rfl (impl_Colouring_isColouring_ac k p0.s _ hr3) ?_
      rintro _ _ ⟨rfl, rfl⟩
      refine ⟨(fun _ h => nomatch h), (allc (trivial) (fun _ h => nomatch h)), AOps_as 11 (v' := bV r3) (H' := []) rfl rfl ?_⟩
      refine AOps_q 12 _ rfl rfl rfl (QOp_pick_t _ _ _ _ rfl rfl rfl) ?_
      refine AOps_q 2 _ rfl rfl rfl (QOp_assign _ _ rfl rfl) ?_
      refine AOps_nil ?_
      cases h
      exact Weak_keep 0 hm [2] [] _ _ rfl rfl rfl
    · have h := iteF hb2 h
      refine AOps_skip 8 rfl rfl rfl ?_
      refine AOps_skip 9 rfl rfl rfl ?_
      refine AOps_skip 10 rfl rfl rfl ?_
      refine AOps_skip 11 rfl rfl rfl ?_
      refine AOps_q 12 _ rfl rfl rfl (QOp_pick_f _ _ _ _ rfl rfl rfl) ?_
      refine AOps_q 2 _ rfl rfl rfl (QOp_assign _ _ rfl rfl) ?_
      refine AOps_nil ?_
      cases h
      exact Weak_keep 0 hm [2] [] _ _ rfl rfl rfl
  intro E' H' hw
  refine ACode_weak hw ?_
  have h := hks4
  refine ACode_ret ?_
  cases h
  exact ⟨_, _, fun r a w h => ⟨r, h⟩, _, _, [], _, (.cons (ResV_tmp _ _ rfl) .nil), rfl, rfl, rfl, rfl, rfl⟩

-- loop.example/g01362/impl.IsDesk
def impl_IsDesk (k : Nat) (p0 : Desk) : Option (Bool) :=
  (impl_Desk_isDesk k p0).bind fun r1 => some r1
set_option maxRecDepth 100000 in
theorem impl_IsDesk_ac (k : Nat) (p0 : Desk) (r : Bool) (h : impl_IsDesk k p0 = some r) : AC Try.prog 14 [.d (.agg (deskD p0))] [] (fun res H' => res = [bV r] ∧ H' = []) := by
  refine AC_of_body true Try.func14 rfl Try.ntmps14 (rvs := [.tmp 2]) rfl rfl (fun G hG => ?_)
  have hm : G.H.length = 0 := by rw [hG]; rfl
  unfold impl_IsDesk at h
  refine ACode_seq (ACode_region ?_)
  refine AOps_boxI 1 _ _ (.agg (deskD p0)) (deskD p0) rfl (deskD_one _) rfl rfl rfl rfl rfl ?_
  refine AOps_q 2 _ rfl rfl rfl (QOp_assign _ _ rfl rfl) ?_
  refine AOps_nil ?_
  refine ACode_seq (ACode_region ?_)
  obtain ⟨r1, hr1, h⟩ := bindO h
  refine AOps_call [] 3 _ _ _ _ _ _ _ _ _ _ rfl rfl rfl rfl rfl rfl rfl Try.call29 rfl (nodupB_sound _ rfl) rfl rfl rfl (impl_Desk_isDesk_ac k p0 _ hr1) ?_
  rintro _ _ ⟨rfl, rfl⟩
  refine ⟨(fun _ h => nomatch h), (allc (trivial) (fun _ h => nomatch h)), AOps_as 3 (v' := bV r1) (H' := []) rfl rfl ?_⟩
  refine AOps_q 2 _ rfl rfl rfl (QOp_assign _ _ rfl rfl) ?_
  refine AOps_nil ?_
  refine ACode_ret ?_
  cases h
  exact ⟨_, _, fun r a w h => ⟨r, h⟩, _, _, [], _, (.cons (ResV_tmp _ _ rfl) .nil), rfl, rfl, rfl, rfl, rfl⟩

-- loop.example/g01362/laws.FnExactIsDesk
def laws_FnExactIsDesk (k : Nat) (p0 : Desk) : Option (Bool) :=
  (laws_toDesk k p0).bind fun r1 => (spec_IsDesk k r1).bind fun r2 => (laws_toDesk k p0).bind fun r3 => (impl_IsDesk k r3).bind fun r4 => (if !(r4 == r2) then some false else some true)
set_option maxRecDepth 100000 in
theorem laws_FnExactIsDesk_ac (k : Nat) (p0 : Desk) (r : Bool) (h : laws_FnExactIsDesk k p0 = some r) : AC Try.prog 5 [.d (.agg (deskD p0))] [] (fun res H' => res = [bV r] ∧ H' = []) := by
  refine AC_of_body true Try.func5 rfl Try.ntmps5 (rvs := [.tmp 2]) rfl rfl (fun G hG => ?_)
  have hm : G.H.length = 0 := by rw [hG]; rfl
  unfold laws_FnExactIsDesk at h
  refine ACode_seq (ACode_region ?_)
  refine AOps_boxI 1 _ _ (.agg (deskD p0)) (deskD p0) rfl (deskD_one _) rfl rfl rfl rfl rfl ?_
  refine AOps_q 2 _ rfl rfl rfl (QOp_assign _ _ rfl rfl) ?_
  refine AOps_nil ?_
  refine ACode_seq (ACode_region ?_)
  refine AOps_q 5 _ rfl rfl rfl (QOp_loadN_pv _ _ _ _ _ _ rfl Try.isAgg29 Try.sizeOf29 rfl (deskD_all _) (deskD_length _)) ?_
  obtain ⟨r1, hr1, h⟩ := bindO h
  refine AOps_call [] 6 _ _ _ _ _ _ _ _ _ _ rfl rfl rfl rfl rfl rfl rfl Try.call13 rfl (nodupB_sound _ rfl) rfl rfl rfl (laws_toDesk_ac k p0 _ hr1) ?_
  rintro _ _ ⟨rfl, rfl⟩
  refine ⟨(fun _ h => nomatch h), (allc (trivial) (fun _ h => nomatch h)), AOps_as 6 (v' := .d (.agg (deskD r1))) (H' := []) rfl rfl ?_⟩
  obtain ⟨r2, hr2, h⟩ := bindO h
  refine AOps_call [] 7 _ _ _ _ _ _ _ _ _ _ rfl rfl rfl rfl rfl rfl rfl Try.call12 rfl (nodupB_sound _ rfl) rfl rfl rfl (spec_IsDesk_ac k r1 _ hr2) ?_
  rintro _ _ ⟨rfl, rfl⟩
  refine ⟨(fun _ h => nomatch h), (allc (trivial) (fun _ h => nomatch h)), AOps_as 7 (v' := bV r2) (H' := []) rfl rfl ?_⟩
  refine AOps_q 3 _ rfl rfl rfl (QOp_assign _ _ rfl rfl) ?_
  refine AOps_nil ?_
  refine ACode_seq (ACode_region ?_)
  refine AOps_q 8 _ rfl rfl rfl (QOp_loadN_pv _ _ _ _ _ _ rfl Try.isAgg29 Try.sizeOf29 rfl (deskD_all _) (deskD_length _)) ?_
  obtain ⟨r3, hr3, h⟩ := bindO h
  refine AOps_call [] 9 _ _ _ _ _ _ _ _ _ _ rfl rfl rfl rfl rfl rfl rfl Try.call13 rfl (nodupB_sound _ rfl) rfl rfl rfl (laws_toDesk_ac k p0 _ hr3) ?_
  rintro _ _ ⟨rfl, rfl⟩
  refine ⟨(fun _ h => nomatch h), (allc (trivial) (fun _ h => nomatch h)), AOps_as 9 (v' := .d (.agg (deskD r3))) (H' := []) rfl rfl ?_⟩
  obtain ⟨r4, hr4, h⟩ := bindO h
  refine AOps_call [] 10 _ _ _ _ _ _ _ _ _ _ rfl rfl rfl rfl rfl rfl rfl Try.call14 rfl (nodupB_sound _ rfl) rfl rfl rfl (impl_IsDesk_ac k r3 _ hr4) ?_
  rintro _ _ ⟨rfl, rfl⟩
  refine ⟨(fun _ h => nomatch h), (allc (trivial) (fun _ h => nomatch h)), AOps_as 10 (v' := bV r4) (H' := []) rfl rfl ?_⟩
  refine AOps_q 4 _ rfl rfl rfl (QOp_assign _ _ rfl rfl) ?_
  refine AOps_nil ?_
  refine ACode_seq ?_
  refine ACode_seq (ACode_region ?_)
  refine AOps_q 11 _ rfl rfl rfl (QOp_move _ _ rfl rfl) ?_
  refine AOps_q 12 _ rfl rfl rfl (QOp_move _ _ rfl rfl) ?_
  refine AOps_q 13 _ rfl rfl rfl (QOp_bneq _ _ _ _ _ _ rfl rfl rfl Try.underlying4) ?_
  refine AOps_nil ?_
  refine ACode_cond _ rfl (fun hb5 => ?_) (fun hb5 => ?_)
  · have h := iteT hb5 h
    refine ACode_seq (ACode_region ?_)
    refine AOps_q 2 _ rfl rfl rfl (QOp_assign _ _ rfl rfl) ?_
    refine AOps_nil ?_
    refine ACode_ret ?_
    cases h
    exact ⟨_, _, fun r a w h => ⟨r, h⟩, _, _, [], _, (.cons (ResV_tmp _ _ rfl) .nil), rfl, rfl, rfl, rfl, rfl⟩
  · have h := iteF hb5 h
    refine ACode_skip ?_
    refine ACode_seq (ACode_region ?_)
    refine AOps_q 2 _ rfl rfl rfl (QOp_assign _ _ rfl rfl) ?_
    refine AOps_nil ?_
    refine ACode_ret ?_
    cases h
    exact ⟨_, _, fun r a w h => ⟨r, h⟩, _, _, [], _, (.cons (ResV_tmp _ _ rfl) .nil), rfl, rfl, rfl, rfl, rfl⟩

-- loop.example/g01362/laws.toInt64S
def laws_toInt64S_l0 (p0 : List Int) : Nat → Int → (List Int) → Option (List Int)
  | 0, _, _ => none
  | k0 + 1, x2, x3 => (if decide (x2 < (p0.length : Int)) then (if 0 ≤ x2 ∧ x2 < (p0.length : Int) then (if 0 ≤ x2 ∧ x2 < (x3.length : Int) then laws_toInt64S_l0 p0 k0 (w64 (x2 + 1)) (x3.set x2.toNat (p0.getD x2.toNat 0)) else none) else none) else some x3)
def laws_toInt64S (k : Nat) (p0 : List Int) : Option (List Int) :=
  (if 0 ≤ (p0.length : Int) ∧ (p0.length : Int) ≤ (p0.length : Int) ∧ (p0.length : Int) ≤ 1099511627776 then (laws_toInt64S_l0 p0 k 0 (List.replicate (p0.length : Int).toNat (0 : Int)) : Option (List Int)).bind fun s7 => some s7 else none)
set_option maxRecDepth 100000 in
theorem laws_toInt64S_ac (k : Nat) (p0 : List Int) (r : List Int) (h : laws_toInt64S k p0 = some r) : AC Try.prog 16 [.d (.sl none (intsD p0))] [] (fun res H' => res = [.vec 0 0] ∧ H' = [.vec 0 (intsD r)]) := by
  refine AC_of_body true Try.func16 rfl Try.ntmps16 (rvs := [.tmp 2]) rfl rfl (fun G hG => ?_)
  have hm : G.H.length = 0 := by rw [hG]; rfl
  unfold laws_toInt64S at h
  refine ACode_seq (ACode_region ?_)
  refine AOps_q 2 _ rfl rfl rfl (QOp_assign _ _ rfl rfl) ?_
  refine AOps_nil ?_
  refine ACode_seq (ACode_region ?_)
  refine AOps_q 5 _ rfl rfl rfl (QOp_move _ _ rfl rfl) ?_
  refine AOps_q 6 _ rfl rfl rfl (QOp_len_sl _ _ _ _ _ _ _ (intsD_length _) rfl rfl rfl rfl Try.underlying36 rfl) ?_
  obtain ⟨hc1, h⟩ := guardO h
  refine AOps_makeSliceG intsD iD 0 (intsD_rep · _) 7 _ _ _ _ _ _ (p0.length : Int) (p0.length : Int) _ (.int .i64 0) rfl rfl rfl rfl rfl rfl Try.underlying36 Try.type2 rfl rfl (by decide) rfl rfl hc1.1 hc1.2.1 hc1.2.2 ?_
  refine AOps_q 3 _ rfl rfl rfl (QOp_assign _ _ rfl rfl) ?_
  refine AOps_nil ?_
  obtain ⟨s7, hss7, hks7⟩ := bindO h
  clear h
  refine ACode_seqJ (fun E' H' => Weak 22 G E' H' [(3, .vec 0 0)] [.vec 0 (intsD s7)]) ?_ ?_
  · have h := hss7
    clear hss7
    refine ACode_seq (ACode_region ?_)
    refine AOps_q 4 _ rfl rfl rfl (QOp_assign _ _ rfl rfl) ?_
    refine AOps_nil ?_
    refine ACode_block ?_
    refine ACode_loopW (fun k0 E H => ∃ (x2 : Int) (x3 : List Int), E = [(0, .d (.sl none (intsD p0))), (3, .vec 0 0), (4, iV x2)] ∧ H = [.vec 0 (intsD x3)] ∧ laws_toInt64S_l0 p0 k0 x2 x3 = some s7) k _ _ (Weak_keep 0 hm [0, 3, 4] [0] _ _ rfl rfl rfl) ⟨_, _, rfl, rfl, h⟩ ?_
    clear h
    rintro k0 E H ⟨x2, x3, rfl, rfl, h⟩
    cases k0 with
    | zero => cases (show (none : Option (List Int)) = some _ from h)
    | succ k0 =>
      rw [laws_toInt64S_l0] at h
      refine ACode_seq ?_
      refine ACode_seq (ACode_region ?_)
      refine AOps_q 8 _ rfl rfl rfl (QOp_move _ _ rfl rfl) ?_
      refine AOps_q 9 _ rfl rfl rfl (QOp_move _ _ rfl rfl) ?_
      refine AOps_q 10 _ rfl rfl rfl (QOp_len_sl _ _ _ _ _ _ _ (intsD_length _) rfl rfl rfl rfl Try.underlying36 rfl) ?_
      refine AOps_q 11 _ rfl rfl rfl (QOp_lss _ _ _ _ _ _ _ rfl rfl rfl) ?_
      refine AOps_nil ?_
      refine ACode_cond _ rfl (fun hb4 => ?_) (fun hb4 => ?_)
      · have h := iteT hb4 h
        refine ACode_skip ?_
        refine ACode_seq ?_
        refine ACode_block ?_
        refine (ACode_region ?_)
        refine AOps_q 14 _ rfl rfl rfl (QOp_move _ _ rfl rfl) ?_
        refine AOps_q 15 _ rfl rfl rfl (QOp_move _ _ rfl rfl) ?_
        refine AOps_q 16 _ rfl rfl rfl (QOp_move _ _ rfl rfl) ?_
        refine AOps_q 17 _ rfl rfl rfl (QOp_move _ _ rfl rfl) ?_
        obtain ⟨hc5, h⟩ := guardO h
        refine AOps_q 18 _ rfl rfl rfl (QOp_indexAddr_sl _ _ _ _ _ _ _ _ rfl Try.underlying36 Try.sizeOf2 hc5.1 (by rw [intsD_length]; exact hc5.2) rfl rfl) ?_
        refine AOps_q 19 _ rfl rfl rfl (QOp_load_pv _ _ _ _ _ rfl Try.isAgg2 rfl (intsD_get _ _ 0 (by omega))) ?_
        obtain ⟨hc6, h⟩ := guardO h
        refine AOps_q 20 _ rfl rfl rfl (QOp_indexAddr_vec _ _ _ _ _ _ _ _ _ rfl Try.underlying36 Try.sizeOf2 hc6.1 (by rw [intsD_length]; exact hc6.2) rfl rfl rfl) ?_
        refine AOps_store_eptr _ _ _ _ _ _ (intsD x3) _ rfl rfl rfl rfl rfl rfl rfl Try.sizeOf2 (by rw [intsD_length]; omega) ?_
        rw [intsD_set]
        refine AOps_nil ?_
        refine (ACode_region ?_)
        refine AOps_q 12 _ rfl rfl rfl (QOp_move _ _ rfl rfl) ?_
        refine AOps_q 13 _ rfl rfl rfl (QOp_add _ _ _ _ _ _ _ rfl rfl rfl) ?_
        refine AOps_q 4 _ rfl rfl rfl (QOp_assign _ _ rfl rfl) ?_
        refine AOps_nil ?_
        exact ⟨k0, _, _, Nat.lt_succ_self _, Weak_keep 0 hm [0, 3, 4] [0] _ _ rfl rfl rfl, _, _, rfl, rfl, h⟩
      · have h := iteF hb4 h
        refine ACode_exit ?_
        cases h
        exact Weak_keep 0 hm [3] [0] _ _ rfl rfl rfl
  intro E' H' hw
  refine ACode_weak hw ?_
  have h := hks7
  refine ACode_seq (ACode_region ?_)
  refine AOps_q 21 _ rfl rfl rfl (QOp_move _ _ rfl rfl) ?_
  refine AOps_q 2 _ rfl rfl rfl (QOp_assign _ _ rfl rfl) ?_
  refine AOps_nil ?_
  refine ACode_ret ?_
  cases h
  exact ⟨_, _, Weak_reset 0 hm [2] _ _ rfl rfl, _, _, [0], _, (.cons (ResV_tmp _ _ rfl) .nil), rfl, rfl, rfl, rfl, rfl⟩

-- loop.example/g01362/spec.l01Edge
def spec_l01Edge (p0 : Int) (p1 : Int) : Int :=
  (if decide (p1 < p0) then w64 ((w64 ((w64 (p0 * (w64 (p0 - 1)))).tdiv 2)) + p1) else w64 ((w64 ((w64 (p1 * (w64 (p1 - 1)))).tdiv 2)) + p0))
set_option maxRecDepth 100000 in
theorem spec_l01Edge_ac (p0 : Int) (p1 : Int) : AC Try.prog 30 [iV p0, iV p1] [] (fun res H' => res = [iV (spec_l01Edge p0 p1)] ∧ H' = []) := by
  refine AC_of_body true Try.func30 rfl Try.ntmps30 (rvs := [.tmp 4]) rfl rfl (fun G hG => ?_)
  have hm : G.H.length = 0 := by rw [hG]; rfl
  obtain ⟨r, h⟩ : ∃ r, spec_l01Edge p0 p1 = r := ⟨_, rfl⟩
  rw [h]
  unfold spec_l01Edge at h
  refine ACode_seq (ACode_region ?_)
  refine AOps_q 4 _ rfl rfl rfl (QOp_assign _ _ rfl rfl) ?_
  refine AOps_nil ?_
  refine ACode_seq ?_
  refine ACode_seq (ACode_region ?_)
  refine AOps_q 5 _ rfl rfl rfl (QOp_move _ _ rfl rfl) ?_
  refine AOps_q 6 _ rfl rfl rfl (QOp_move _ _ rfl rfl) ?_
  refine AOps_q 7 _ rfl rfl rfl (QOp_gtr _ _ _ _ _ _ _ rfl rfl rfl) ?_
  refine AOps_nil ?_
  refine ACode_cond _ rfl (fun hb1 => ?_) (fun hb1 => ?_)
  · have h := iteT hb1 h
    refine ACode_seq (ACode_region ?_)
    refine AOps_q 8 _ rfl rfl rfl (QOp_move _ _ rfl rfl) ?_
    refine AOps_q 9 _ rfl rfl rfl (QOp_move _ _ rfl rfl) ?_
    refine AOps_q 10 _ rfl rfl rfl (QOp_sub _ _ _ _ _ _ _ rfl rfl rfl) ?_
    refine AOps_q 11 _ rfl rfl rfl (QOp_mul _ _ _ _ _ _ _ rfl rfl rfl) ?_
    refine AOps_q 12 _ rfl rfl rfl (QOp_quo _ _ _ _ _ _ _ (by decide) rfl rfl rfl) ?_
    refine AOps_q 13 _ rfl rfl rfl (QOp_move _ _ rfl rfl) ?_
    refine AOps_q 14 _ rfl rfl rfl (QOp_add _ _ _ _ _ _ _ rfl rfl rfl) ?_
    refine AOps_q 4 _ rfl rfl rfl (QOp_assign _ _ rfl rfl) ?_
    refine AOps_nil ?_
    refine ACode_ret ?_
    cases h
    exact ⟨_, _, fun r a w h => ⟨r, h⟩, _, _, [], _, (.cons (ResV_tmp _ _ rfl) .nil), rfl, rfl, rfl, rfl, rfl⟩
  · have h := iteF hb1 h
    refine ACode_skip ?_
    refine ACode_seq (ACode_region ?_)
    refine AOps_q 15 _ rfl rfl rfl (QOp_move _ _ rfl rfl) ?_
    refine AOps_q 16 _ rfl rfl rfl (QOp_move _ _ rfl rfl) ?_
    refine AOps_q 17 _ rfl rfl rfl (QOp_sub _ _ _ _ _ _ _ rfl rfl rfl) ?_
    refine AOps_q 18 _ rfl rfl rfl (QOp_mul _ _ _ _ _ _ _ rfl rfl rfl) ?_
    refine AOps_q 19 _ rfl rfl rfl (QOp_quo _ _ _ _ _ _ _ (by decide) rfl rfl rfl) ?_
    refine AOps_q 20 _ rfl rfl rfl (QOp_move _ _ rfl rfl) ?_
    refine AOps_q 21 _ rfl rfl rfl (QOp_add _ _ _ _ _ _ _ rfl rfl rfl) ?_
    refine AOps_q 4 _ rfl rfl rfl (QOp_assign _ _ rfl rfl) ?_
    refine AOps_nil ?_
    refine ACode_ret ?_
    cases h
    exact ⟨_, _, fun r a w h => ⟨r, h⟩, _, _, [], _, (.cons (ResV_tmp _ _ rfl) .nil), rfl, rfl, rfl, rfl, rfl⟩

-- loop.example/g01362/spec.SequenceColouring
def spec_SequenceColouring_l1 (p0 : List Int) (x3 : Int) : Nat → Int → Col → Col → Option (Sum (Col × Col) (Sum (Col × Col) (Col × Int)))
  | 0, _, _, _ => none
  | k1 + 1, x7, x8, x9 => (if decide (x7 < x3) then ((if 0 ≤ x7 ∧ x7 < (p0.length : Int) then (if 0 ≤ x3 ∧ x3 < (p0.length : Int) then (if decide ((p0.getD x7.toNat 0) = (p0.getD x3.toNat 0)) then ((some (.inr ((⟨0, 0, B136.zero⟩ : Col), 2))).bind fun rr => some (.inr rr)).bind fun rr => some (.inr rr) else (if 0 ≤ x7 ∧ x7 < (p0.length : Int) then (if 0 ≤ x3 ∧ x3 < (p0.length : Int) then (if decide ((p0.getD x3.toNat 0) < (p0.getD x7.toNat 0)) then (if 0 ≤ (spec_l01Edge x7 x3) ∧ (spec_l01Edge x7 x3) < 136 then some (.inl (x9.set ((spec_l01Edge x7 x3).toNat) 1)) else none) else some (.inl x9)) else none) else none)) else none) else none) : Option (Sum (Col) (Sum (Col × Col) (Sum (Col × Col) (Col × Int))))).bind fun os19 => (match os19 with | .inl s19 => spec_SequenceColouring_l1 p0 x3 k1 (w64 (x7 + 1)) x8 s19 | .inr rr => some rr) else some (.inl (x8, x9)))
def spec_SequenceColouring_l0 (k : Nat) (p0 : List Int) : Nat → Int → Col → Col → Option (Sum (Col × Col) (Col × Int))
  | 0, _, _, _ => none
  | k0 + 1, x3, x4, x5 => (if decide (x3 < (p0.length : Int)) then (spec_SequenceColouring_l1 p0 x3 k 0 x4 x5 : Option (Sum (Col × Col) (Sum (Col × Col) (Col × Int)))).bind fun os20 => (match os20 with | .inl s20 => spec_SequenceColouring_l0 k p0 k0 (w64 (x3 + 1)) s20.1 s20.2 | .inr rr => some rr) else some (.inl (x4, x5)))
def spec_SequenceColouring (k : Nat) (p0 : List Int) : Option (Col × Int) :=
  (if !(spec_l01In (p0.length : Int) 1 17) then some ((⟨0, 0, B136.zero⟩ : Col), 2) else (spec_SequenceColouring_l0 k p0 k 1 Col.zero (⟨(p0.length : Int), 2, B136.zero⟩ : Col) : Option (Sum (Col × Col) (Col × Int))).bind fun os21 => (match os21 with | .inl s21 => some (s21.2, 0) | .inr rr => some rr))
set_option maxRecDepth 100000 in
theorem spec_SequenceColouring_ac (k : Nat) (p0 : List Int) (r : Col × Int) (h : spec_SequenceColouring k p0 = some r) : AC Try.prog 15 [.d (.sl none (intsD p0))] [] (fun res H' => res = [.d (.agg (colD r.1)), iV r.2] ∧ H' = []) := by
  refine AC_of_body true Try.func15 rfl Try.ntmps15 (rvs := [.cell 2 31, .tmp 3]) rfl rfl (fun G hG => ?_)
  have hm : G.H.length = 0 := by rw [hG]; rfl
  unfold spec_SequenceColouring at h
  refine ACode_seq (ACode_region ?_)
  refine AOps_alloc 2 _ _ (colD Col.zero) (zero_of Try.typeInfo31 rfl) (by rfl) rfl rfl rfl rfl ?_
  refine AOps_q 3 _ rfl rfl rfl (QOp_assign _ _ rfl rfl) ?_
  refine AOps_nil ?_
  refine ACode_seq (ACode_region ?_)
  refine AOps_q 8 _ rfl rfl rfl (QOp_move _ _ rfl rfl) ?_
  refine AOps_q 9 _ rfl rfl rfl (QOp_len_sl _ _ _ _ _ _ _ (intsD_length _) rfl rfl rfl rfl Try.underlying36 rfl) ?_
  refine AOps_q 4 _ rfl rfl rfl (QOp_assign _ _ rfl rfl) ?_
  refine AOps_nil ?_
  refine ACode_seq ?_
  refine ACode_seq (ACode_region ?_)
  refine AOps_q 10 _ rfl rfl rfl (QOp_move _ _ rfl rfl) ?_
  refine AOps_call [] 11 _ _ _ _ _ _ _ _ _ _ rfl rfl rfl rfl rfl rfl rfl Try.call23 rfl (nodupB_sound _ rfl) rfl rfl rfl (spec_l01In_ac (p0.length : Int) 1 17) ?_
  rintro _ _ ⟨rfl, rfl⟩
  refine ⟨(fun _ h => nomatch h), (allc (trivial) (fun _ h => nomatch h)), AOps_as 11 (v' := bV (spec_l01In (p0.length : Int) 1 17)) (H' := [.box (colD Col.zero)]) rfl rfl ?_⟩
  refine AOps_q 12 _ rfl rfl rfl (QOp_not _ _ _ rfl rfl) ?_
  refine AOps_nil ?_
  refine ACode_cond _ rfl (fun hb2 => ?_) (fun hb2 => ?_)
  · have h := iteT hb2 h
    refine ACode_seq (ACode_region ?_)
    refine AOps_q 13 _ rfl rfl rfl (QOp_build _ _ [] [] [] _ (colD Col.zero) (colD (⟨0, 0, B136.zero⟩ : Col)) [(0, 1), (1, 1), (2, 136)] rfl rfl Try.underlying31 (zero_of Try.typeInfo31 rfl) (fun w => by simp [Try.sizeOf2, Try.sizeOf2, Try.sizeOf25]) rfl (by rfl) (by rfl) (fun _ h => nomatch h)) ?_
    refine AOps_store _ _ _ _ _ _ (colD _) _ _ rfl rfl rfl rfl rfl rfl rfl (colD_one _) (by rw [colD_length]; exact Try.sizeOf31) (by rw [colD_length, colD_length]; decide) (colD_whole _ _) ?_
    refine AOps_q 3 _ rfl rfl rfl (QOp_assign _ _ rfl rfl) ?_
    refine AOps_nil ?_
    refine ACode_ret ?_
    cases h
    exact ⟨_, _, fun r a w h => ⟨r, h⟩, _, _, [], _, (.cons (ResV_agg _ _ _ _ _ _ Try.isAgg31 Try.sizeOf31 rfl rfl (colD_take _) (colD_length _)) (.cons (ResV_tmp _ _ rfl) .nil)), rfl, rfl, rfl, rfl, rfl⟩
  · have h := iteF hb2 h
    refine ACode_skip ?_
    refine ACode_seq (ACode_region ?_)
    refine AOps_q 14 _ rfl rfl rfl (QOp_move _ _ rfl rfl) ?_
    refine AOps_q 15 _ rfl rfl rfl (QOp_build _ _ [_, _] [0, 1] [iD (p0.length : Int), iD 2] _ (colD Col.zero) (colD (⟨(p0.length : Int), 2, B136.zero⟩ : Col)) [(0, 1), (1, 1), (2, 136)] rfl rfl Try.underlying31 (zero_of Try.typeInfo31 rfl) (fun w => by simp [Try.sizeOf2, Try.sizeOf2, Try.sizeOf25]) rfl (by rfl) (by rfl) (allc (ok1 rfl) (allc (ok1 rfl) (fun _ h => nomatch h)))) ?_
    refine AOps_alloc 5 _ _ (colD Col.zero) (zero_of Try.typeInfo31 rfl) (by rfl) rfl rfl rfl rfl ?_
    refine AOps_store _ _ _ _ _ _ (colD _) _ _ rfl rfl rfl rfl rfl rfl rfl (colD_one _) (by rw [colD_length]; exact Try.sizeOf31) (by rw [colD_length, colD_length]; decide) (colD_whole _ _) ?_
    refine AOps_nil ?_
    obtain ⟨os21, hss21, hks21⟩ := bindO h
    clear h
    refine ACode_seqJ (fun E' H' => ∃ s21 : Col × Col, os21 = .inl s21 ∧ Weak 51 G E' H' [(2, .ptr 0 0), (5, .ptr 1 0)] [.box (colD s21.1), .box (colD s21.2)]) ?_ ?_
    · have h := hss21
      clear hss21
      refine ACode_seq (ACode_region ?_)
      refine AOps_q 6 _ rfl rfl rfl (QOp_assign _ _ rfl rfl) ?_
      refine AOps_nil ?_
      refine ACode_block ?_
      refine ACode_loopW (fun k0 E H => ∃ (x3 : Int) (x4 : Col) (x5 : Col), E = [(0, .d (.sl none (intsD p0))), (2, .ptr 0 0), (4, iV (p0.length : Int)), (5, .ptr 1 0), (6, iV x3)] ∧ H = [.box (colD x4), .box (colD x5)] ∧ spec_SequenceColouring_l0 k p0 k0 x3 x4 x5 = some os21) k _ _ (Weak_keep 0 hm [0, 2, 4, 5, 6] [0, 1] _ _ rfl rfl rfl) ⟨_, _, _, rfl, rfl, h⟩ ?_
      clear h
      rintro k0 E H ⟨x3, x4, x5, rfl, rfl, h⟩
      cases k0 with
      | zero => cases (show (none : Option (Sum (Col × Col) (Col × Int))) = some _ from h)
      | succ k0 =>
        rw [spec_SequenceColouring_l0] at h
        refine ACode_seq ?_
        refine ACode_seq (ACode_region ?_)
        refine AOps_q 16 _ rfl rfl rfl (QOp_move _ _ rfl rfl) ?_
        refine AOps_q 17 _ rfl rfl rfl (QOp_move _ _ rfl rfl) ?_
        refine AOps_q 18 _ rfl rfl rfl (QOp_lss _ _ _ _ _ _ _ rfl rfl rfl) ?_
        refine AOps_nil ?_
        refine ACode_cond _ rfl (fun hb6 => ?_) (fun hb6 => ?_)
        · have h := iteT hb6 h
          refine ACode_skip ?_
          obtain ⟨os20, hss20, hks20⟩ := bindO h
          clear h
          refine ACode_seqJ (fun E' H' => ∃ s20 : Col × Col, os20 = .inl s20 ∧ Weak 51 G E' H' [(0, .d (.sl none (intsD p0))), (2, .ptr 0 0), (4, iV (p0.length : Int)), (5, .ptr 1 0), (6, iV x3)] [.box (colD s20.1), .box (colD s20.2)]) ?_ ?_
          · have h := hss20
            clear hss20
            refine ACode_block ?_
            refine ACode_seq (ACode_region ?_)
            refine AOps_q 7 _ rfl rfl rfl (QOp_assign _ _ rfl rfl) ?_
            refine AOps_nil ?_
            refine ACode_block ?_
            refine ACode_loopW (fun k1 E H => ∃ (x7 : Int) (x8 : Col) (x9 : Col), E = [(0, .d (.sl none (intsD p0))), (2, .ptr 0 0), (4, iV (p0.length : Int)), (5, .ptr 1 0), (6, iV x3), (7, iV x7)] ∧ H = [.box (colD x8), .box (colD x9)] ∧ spec_SequenceColouring_l1 p0 x3 k1 x7 x8 x9 = some os20) k _ _ (Weak_keep 0 hm [0, 2, 4, 5, 6, 7] [0, 1] _ _ rfl rfl rfl) ⟨_, _, _, rfl, rfl, h⟩ ?_
            clear h
            rintro k1 E H ⟨x7, x8, x9, rfl, rfl, h⟩
            cases k1 with
            | zero => cases (show (none : Option (Sum (Col × Col) (Sum (Col × Col) (Col × Int)))) = some _ from h)
            | succ k1 =>
              rw [spec_SequenceColouring_l1] at h
              refine ACode_seq ?_
              refine ACode_seq (ACode_region ?_)
              refine AOps_q 21 _ rfl rfl rfl (QOp_move _ _ rfl rfl) ?_
              refine AOps_q 22 _ rfl rfl rfl (QOp_move _ _ rfl rfl) ?_
              refine AOps_q 23 _ rfl rfl rfl (QOp_lss _ _ _ _ _ _ _ rfl rfl rfl) ?_
              refine AOps_nil ?_
              refine ACode_cond _ rfl (fun hb10 => ?_) (fun hb10 => ?_)
              · have h := iteT hb10 h
                refine ACode_skip ?_
                obtain ⟨os19, hss19, hks19⟩ := bindO h
                clear h
                refine ACode_seqJ (fun E' H' => ∃ s19 : Col, os19 = .inl s19 ∧ Weak 51 G E' H' [(0, .d (.sl none (intsD p0))), (2, .ptr 0 0), (4, iV (p0.length : Int)), (5, .ptr 1 0), (6, iV x3), (7, iV x7)] [.box (colD x8), .box (colD s19)]) ?_ ?_
                · have h := hss19
                  clear hss19
                  refine ACode_block ?_
                  refine ACode_seq ?_
                  refine ACode_seq (ACode_quiet mixed (by kernel_rfl) ?_)
                  refine AQ_q 26 _ rfl rfl rfl (QOp_move _ _ rfl rfl) ?_
                  refine AQ_q 27 _ rfl rfl rfl (QOp_move _ _ rfl rfl) ?_
                  obtain ⟨hc11, h⟩ := guardO h
                  refine AQ_q 28 _ rfl rfl rfl (QOp_indexAddr_sl _ _ _ _ _ _ _ _ rfl Try.underlying36 Try.sizeOf2 hc11.1 (by rw [intsD_length]; exact hc11.2) rfl rfl) ?_
                  refine AQ_q 29 _ rfl rfl rfl (QOp_load_pv _ _ _ _ _ rfl Try.isAgg2 rfl (intsD_get _ _ 0 (by omega))) ?_
                  refine AQ_q 30 _ rfl rfl rfl (QOp_move _ _ rfl rfl) ?_
                  refine AQ_q 31 _ rfl rfl rfl (QOp_move _ _ rfl rfl) ?_
                  obtain ⟨hc12, h⟩ := guardO h
                  refine AQ_q 32 _ rfl rfl rfl (QOp_indexAddr_sl _ _ _ _ _ _ _ _ rfl Try.underlying36 Try.sizeOf2 hc12.1 (by rw [intsD_length]; exact hc12.2) rfl rfl) ?_
                  refine AQ_q 33 _ rfl rfl rfl (QOp_load_pv _ _ _ _ _ rfl Try.isAgg2 rfl (intsD_get _ _ 0 (by omega))) ?_
                  refine AQ_q 34 _ rfl rfl rfl (QOp_eql _ _ _ _ _ _ _ rfl rfl rfl) ?_
                  refine AQ_nil ?_
                  refine ACode_cond _ rfl (fun hb13 => ?_) (fun hb13 => ?_)
                  · have h := iteT hb13 h
                    refine ACode_seq (ACode_region ?_)
                    refine AOps_q 35 _ rfl rfl rfl (QOp_build _ _ [] [] [] _ (colD Col.zero) (colD (⟨0, 0, B136.zero⟩ : Col)) [(0, 1), (1, 1), (2, 136)] rfl rfl Try.underlying31 (zero_of Try.typeInfo31 rfl) (fun w => by simp [Try.sizeOf2, Try.sizeOf2, Try.sizeOf25]) rfl (by rfl) (by rfl) (fun _ h => nomatch h)) ?_
                    refine AOps_store _ _ _ _ _ _ (colD _) _ _ rfl rfl rfl rfl rfl rfl rfl (colD_one _) (by rw [colD_length]; exact Try.sizeOf31) (by rw [colD_length, colD_length]; decide) (colD_whole _ _) ?_
                    refine AOps_q 3 _ rfl rfl rfl (QOp_assign _ _ rfl rfl) ?_
                    refine AOps_nil ?_
                    refine ACode_ret ?_
                    obtain ⟨rr, hz23, h2⟩ := bindO h
                    obtain rfl := Option.some.inj h2
                    obtain rfl := Option.some.inj (show some rr = some _ from hks19)
                    have h := hz23
                    obtain ⟨rr, hz22, h2⟩ := bindO h
                    obtain rfl := Option.some.inj h2
                    obtain rfl := Option.some.inj (show some rr = some _ from hks20)
                    have h := hz22
                    cases h
                    have h := hks21
                    cases h
                    exact ⟨_, _, fun r a w h => ⟨r, h⟩, _, _, [], _, (.cons (ResV_agg _ _ _ _ _ _ Try.isAgg31 Try.sizeOf31 rfl rfl (colD_take _) (colD_length _)) (.cons (ResV_tmp _ _ rfl) .nil)), rfl, rfl, rfl, rfl, rfl⟩
                  · have h := iteF hb13 h
                    refine ACode_skip ?_
                    refine ACode_seq (ACode_quiet mixed (by kernel_rfl) ?_)
                    refine AQ_q 36 _ rfl rfl rfl (QOp_move _ _ rfl rfl) ?_
                    refine AQ_q 37 _ rfl rfl rfl (QOp_move _ _ rfl rfl) ?_
                    obtain ⟨hc14, h⟩ := guardO h
                    refine AQ_q 38 _ rfl rfl rfl (QOp_indexAddr_sl _ _ _ _ _ _ _ _ rfl Try.underlying36 Try.sizeOf2 hc14.1 (by rw [intsD_length]; exact hc14.2) rfl rfl) ?_
                    refine AQ_q 39 _ rfl rfl rfl (QOp_load_pv _ _ _ _ _ rfl Try.isAgg2 rfl (intsD_get _ _ 0 (by omega))) ?_
                    refine AQ_q 40 _ rfl rfl rfl (QOp_move _ _ rfl rfl) ?_
                    refine AQ_q 41 _ rfl rfl rfl (QOp_move _ _ rfl rfl) ?_
                    obtain ⟨hc15, h⟩ := guardO h
                    refine AQ_q 42 _ rfl rfl rfl (QOp_indexAddr_sl _ _ _ _ _ _ _ _ rfl Try.underlying36 Try.sizeOf2 hc15.1 (by rw [intsD_length]; exact hc15.2) rfl rfl) ?_
                    refine AQ_q 43 _ rfl rfl rfl (QOp_load_pv _ _ _ _ _ rfl Try.isAgg2 rfl (intsD_get _ _ 0 (by omega))) ?_
                    refine AQ_q 44 _ rfl rfl rfl (QOp_gtr _ _ _ _ _ _ _ rfl rfl rfl) ?_
                    refine AQ_nil ?_
                    refine ACode_cond _ rfl (fun hb16 => ?_) (fun hb16 => ?_)
                    · have h := iteT hb16 h
                      refine (ACode_region ?_)
                      refine AOps_q 45 _ rfl rfl rfl (QOp_move _ _ rfl rfl) ?_
                      refine AOps_q 46 _ rfl rfl rfl (QOp_move _ _ rfl rfl) ?_
                      refine AOps_call [] 47 _ _ _ _ _ _ _ _ _ _ rfl rfl rfl rfl rfl rfl rfl Try.call30 rfl (nodupB_sound _ rfl) rfl rfl rfl (spec_l01Edge_ac x7 x3) ?_
                      rintro _ _ ⟨rfl, rfl⟩
                      refine ⟨(fun _ h => nomatch h), (allc (trivial) (fun _ h => nomatch h)), AOps_as 47 (v' := iV (spec_l01Edge x7 x3)) (H' := [.box (colD x8), .box (colD x9)]) rfl rfl ?_⟩
                      refine AOps_q 48 _ rfl rfl rfl (QOp_fieldAddr_ptr _ _ _ _ _ _ 2 _ _ rfl Try.underlying31 rfl _ Try.sizeOf25 rfl rfl rfl rfl) ?_
                      obtain ⟨hc18, h⟩ := guardO h
                      refine AOps_q 49 _ rfl rfl rfl (QOp_indexAddrA_ptr _ _ _ _ _ _ _ _ _ _ rfl Try.underlying25 Try.sizeOf5 hc18.1 hc18.2 rfl rfl rfl rfl) ?_
                      refine AOps_store1 _ _ _ _ _ _ (colD (x9.set ((spec_l01Edge x7 x3).toNat) 1)) _ rfl rfl rfl rfl rfl rfl rfl Try.sizeOf5 (by rw [colD_length]; omega) (colD_setE x9 ((spec_l01Edge x7 x3).toNat) 1) ?_
                      refine AOps_nil ?_
                      cases h
                      exact ⟨_, rfl, Weak_keep 0 hm [0, 2, 4, 5, 6, 7] [0, 1] _ _ rfl rfl rfl⟩
                    · have h := iteF hb16 h
                      refine ACode_skip ?_
                      cases h
                      exact ⟨_, rfl, Weak_keep 0 hm [0, 2, 4, 5, 6, 7] [0, 1] _ _ rfl rfl rfl⟩
                rintro E' H' ⟨s19, rfl, hw⟩
                refine ACode_weak hw ?_
                have h := hks19
                refine (ACode_region ?_)
                refine AOps_q 24 _ rfl rfl rfl (QOp_move _ _ rfl rfl) ?_
                refine AOps_q 25 _ rfl rfl rfl (QOp_add _ _ _ _ _ _ _ rfl rfl rfl) ?_
                refine AOps_q 7 _ rfl rfl rfl (QOp_assign _ _ rfl rfl) ?_
                refine AOps_nil ?_
                exact ⟨k1, _, _, Nat.lt_succ_self _, Weak_keep 0 hm [0, 2, 4, 5, 6, 7] [0, 1] _ _ rfl rfl rfl, _, _, _, rfl, rfl, h⟩
              · have h := iteF hb10 h
                refine ACode_exit ?_
                cases h
                exact ⟨_, rfl, Weak_keep 0 hm [0, 2, 4, 5, 6] [0, 1] _ _ rfl rfl rfl⟩
          rintro E' H' ⟨s20, rfl, hw⟩
          refine ACode_weak hw ?_
          have h := hks20
          refine (ACode_region ?_)
          refine AOps_q 19 _ rfl rfl rfl (QOp_move _ _ rfl rfl) ?_
          refine AOps_q 20 _ rfl rfl rfl (QOp_add _ _ _ _ _ _ _ rfl rfl rfl) ?_
          refine AOps_q 6 _ rfl rfl rfl (QOp_assign _ _ rfl rfl) ?_
          refine AOps_nil ?_
          exact ⟨k0, _, _, Nat.lt_succ_self _, Weak_keep 0 hm [0, 2, 4, 5, 6] [0, 1] _ _ rfl rfl rfl, _, _, _, rfl, rfl, h⟩
        · have h := iteF hb6 h
          refine ACode_exit ?_
          cases h
          exact ⟨_, rfl, Weak_keep 0 hm [2, 5] [0, 1] _ _ rfl rfl rfl⟩
    rintro E' H' ⟨s21, rfl, hw⟩
    refine ACode_weak hw ?_
    have h := hks21
    refine ACode_seq (ACode_region ?_)
    refine AOps_q 50 _ rfl rfl rfl (QOp_loadN_ptr _ _ _ _ _ _ _ rfl Try.isAgg31 Try.sizeOf31 rfl rfl (colD_all _) (colD_length _)) ?_
    refine AOps_store _ _ _ _ _ _ (colD _) _ _ rfl rfl rfl rfl rfl rfl rfl (colD_one _) (by rw [colD_length]; exact Try.sizeOf31) (by rw [colD_length, colD_length]; decide) (colD_whole _ _) ?_
    refine AOps_q 3 _ rfl rfl rfl (QOp_assign _ _ rfl rfl) ?_
    refine AOps_nil ?_
    refine ACode_ret ?_
    cases h
    exact ⟨_, _, fun r a w h => ⟨r, h⟩, _, _, [], _, (.cons (ResV_agg _ _ _ _ _ _ Try.isAgg31 Try.sizeOf31 rfl rfl (colD_take _) (colD_length _)) (.cons (ResV_tmp _ _ rfl) .nil)), rfl, rfl, rfl, rfl, rfl⟩

-- loop.example/g01362/impl.size[int64]
def impl_size (p0 : List Int) : Int :=
  (p0.length : Int)
set_option maxRecDepth 100000 in
theorem impl_size_ac (p0 : List Int) : AC Try.prog 31 [.d (.sl none (intsD p0))] [] (fun res H' => res = [iV (impl_size p0)] ∧ H' = []) := by
  refine AC_of_body true Try.func31 rfl Try.ntmps31 (rvs := [.tmp 2]) rfl rfl (fun G hG => ?_)
  have hm : G.H.length = 0 := by rw [hG]; rfl
  obtain ⟨r, h⟩ : ∃ r, impl_size p0 = r := ⟨_, rfl⟩
  rw [h]
  unfold impl_size at h
  refine ACode_seq (ACode_region ?_)
  refine AOps_q 2 _ rfl rfl rfl (QOp_assign _ _ rfl rfl) ?_
  refine AOps_nil ?_
  refine ACode_seq (ACode_region ?_)
  refine AOps_q 3 _ rfl rfl rfl (QOp_move _ _ rfl rfl) ?_
  refine AOps_q 4 _ rfl rfl rfl (QOp_len_sl _ _ _ _ _ _ _ (intsD_length _) rfl rfl rfl rfl Try.underlying36 rfl) ?_
  refine AOps_q 2 _ rfl rfl rfl (QOp_assign _ _ rfl rfl) ?_
  refine AOps_nil ?_
  refine ACode_ret ?_
  cases h
  exact ⟨_, _, fun r a w h => ⟨r, h⟩, _, _, [], _, (.cons (ResV_tmp _ _ rfl) .nil), rfl, rfl, rfl, rfl, rfl⟩

-- slices.Index[[]int64,int64]
def slices_Index_l0 (p0 : List Int) (p1 : Int) : Nat → Int → Option (Sum (Unit) (Int))
  | 0, _ => none
  | k0 + 1, x1 => (if decide (x1 < (p0.length : Int)) then (if 0 ≤ x1 ∧ x1 < (p0.length : Int) then (if decide (p1 = (p0.getD x1.toNat 0)) then some (.inr x1) else slices_Index_l0 p0 p1 k0 (w64 (x1 + 1))) else none) else some (.inl ()))
def slices_Index (k : Nat) (p0 : List Int) (p1 : Int) : Option (Int) :=
  (slices_Index_l0 p0 p1 k 0 : Option (Sum (Unit) (Int))).bind fun os5 => (match os5 with | .inl s5 => some (-1) | .inr rr => some rr)
set_option maxRecDepth 100000 in
theorem slices_Index_ac (k : Nat) (p0 : List Int) (p1 : Int) (r : Int) (h : slices_Index k p0 p1 = some r) : AC Try.prog 42 [.d (.sl none (intsD p0)), iV p1] [] (fun res H' => res = [iV r] ∧ H' = []) := by
  refine AC_of_body true Try.func42 rfl Try.ntmps42 (rvs := [.tmp 4]) rfl rfl (fun G hG => ?_)
  have hm : G.H.length = 0 := by rw [hG]; rfl
  unfold slices_Index at h
  refine ACode_seq (ACode_region ?_)
  refine AOps_q 4 _ rfl rfl rfl (QOp_assign _ _ rfl rfl) ?_
  refine AOps_nil ?_
  obtain ⟨os5, hss5, hks5⟩ := bindO h
  clear h
  refine ACode_seqJ (fun E' H' => ∃ s5 : Unit, os5 = .inl s5 ∧ Weak 19 G E' H' [] []) ?_ ?_
  · have h := hss5
    clear hss5
    refine ACode_seq (ACode_region ?_)
    refine AOps_q 6 _ rfl rfl rfl (QOp_move _ _ rfl rfl) ?_
    refine AOps_q 7 _ rfl rfl rfl (QOp_len_sl _ _ _ _ _ _ _ (intsD_length _) rfl rfl rfl rfl Try.underlying36 rfl) ?_
    refine AOps_q 8 _ rfl rfl rfl (QOp_move _ _ rfl rfl) ?_
    refine AOps_nil ?_
    refine ACode_block ?_
    refine ACode_loopW (fun k0 E H => ∃ (x1 : Int), E = [(0, .d (.sl none (intsD p0))), (1, iV p1), (7, iV (p0.length : Int)), (8, iV x1)] ∧ H = [] ∧ slices_Index_l0 p0 p1 k0 x1 = some os5) k _ _ (Weak_keep 0 hm [0, 1, 7, 8] [] _ _ rfl rfl rfl) ⟨_, rfl, rfl, h⟩ ?_
    clear h
    rintro k0 E H ⟨x1, rfl, rfl, h⟩
    cases k0 with
    | zero => cases (show (none : Option (Sum (Unit) (Int))) = some _ from h)
    | succ k0 =>
      rw [slices_Index_l0] at h
      refine ACode_seq (ACode_region ?_)
      refine AOps_q 9 _ rfl rfl rfl (QOp_lss _ _ _ _ _ _ _ rfl rfl rfl) ?_
      refine AOps_nil ?_
      refine ACode_seq ?_
      refine ACode_cond _ rfl (fun hb2 => ?_) (fun hb2 => ?_)
      · have h := iteT hb2 h
        refine ACode_skip ?_
        refine ACode_seq ?_
        refine ACode_block ?_
        refine ACode_seq (ACode_region ?_)
        refine AOps_q 10 _ rfl rfl rfl (QOp_move _ _ rfl rfl) ?_
        refine AOps_q 5 _ rfl rfl rfl (QOp_assign _ _ rfl rfl) ?_
        refine AOps_nil ?_
        refine ACode_seq (ACode_region ?_)
        refine AOps_q 11 _ rfl rfl rfl (QOp_move _ _ rfl rfl) ?_
        refine AOps_q 12 _ rfl rfl rfl (QOp_move _ _ rfl rfl) ?_
        refine AOps_q 13 _ rfl rfl rfl (QOp_move _ _ rfl rfl) ?_
        obtain ⟨hc3, h⟩ := guardO h
        refine AOps_q 14 _ rfl rfl rfl (QOp_indexAddr_sl _ _ _ _ _ _ _ _ rfl Try.underlying36 Try.sizeOf2 hc3.1 (by rw [intsD_length]; exact hc3.2) rfl rfl) ?_
        refine AOps_q 15 _ rfl rfl rfl (QOp_load_pv _ _ _ _ _ rfl Try.isAgg2 rfl (intsD_get _ _ 0 (by omega))) ?_
        refine AOps_q 16 _ rfl rfl rfl (QOp_eql _ _ _ _ _ _ _ rfl rfl rfl) ?_
        refine AOps_nil ?_
        refine ACode_cond _ rfl (fun hb4 => ?_) (fun hb4 => ?_)
        · have h := iteT hb4 h
          refine ACode_seq (ACode_region ?_)
          refine AOps_q 17 _ rfl rfl rfl (QOp_move _ _ rfl rfl) ?_
          refine AOps_q 4 _ rfl rfl rfl (QOp_assign _ _ rfl rfl) ?_
          refine AOps_nil ?_
          refine ACode_ret ?_
          cases h
          have h := hks5
          cases h
          exact ⟨_, _, fun r a w h => ⟨r, h⟩, _, _, [], _, (.cons (ResV_tmp _ _ rfl) .nil), rfl, rfl, rfl, rfl, rfl⟩
        · have h := iteF hb4 h
          refine ACode_skip ?_
          refine (ACode_region ?_)
          refine AOps_q 18 _ rfl rfl rfl (QOp_add _ _ _ _ _ _ _ rfl rfl rfl) ?_
          refine AOps_q 8 _ rfl rfl rfl (QOp_move _ _ rfl rfl) ?_
          refine AOps_nil ?_
          exact ⟨k0, _, _, Nat.lt_succ_self _, Weak_keep 0 hm [0, 1, 7, 8] [] _ _ rfl rfl rfl, _, rfl, rfl, h⟩
      · have h := iteF hb2 h
        refine ACode_exit ?_
        cases h
        exact ⟨_, rfl, Weak_keep 0 hm [] [] _ _ rfl rfl rfl⟩
  rintro E' H' ⟨s5, rfl, hw⟩
  refine ACode_weak hw ?_
  have h := hks5
  refine ACode_seq (ACode_region ?_)
  refine AOps_q 4 _ rfl rfl rfl (QOp_assign _ _ rfl rfl) ?_
  refine AOps_nil ?_
  refine ACode_ret ?_
  cases h
  exact ⟨_, _, fun r a w h => ⟨r, h⟩, _, _, [], _, (.cons (ResV_tmp _ _ rfl) .nil), rfl, rfl, rfl, rfl, rfl⟩

-- slices.Contains[[]int64,int64]
def slices_Contains (k : Nat) (p0 : List Int) (p1 : Int) : Option (Bool) :=
  (slices_Index k p0 p1).bind fun r1 => some (decide (0 ≤ r1))
set_option maxRecDepth 100000 in
theorem slices_Contains_ac (k : Nat) (p0 : List Int) (p1 : Int) (r : Bool) (h : slices_Contains k p0 p1 = some r) : AC Try.prog 32 [.d (.sl none (intsD p0)), iV p1] [] (fun res H' => res = [bV r] ∧ H' = []) := by
  refine AC_of_body true Try.func32 rfl Try.ntmps32 (rvs := [.tmp 4]) rfl rfl (fun G hG => ?_)
  have hm : G.H.length = 0 := by rw [hG]; rfl
  unfold slices_Contains at h
  refine ACode_seq (ACode_region ?_)
  refine AOps_q 4 _ rfl rfl rfl (QOp_assign _ _ rfl rfl) ?_
  refine AOps_nil ?_
  refine ACode_seq (ACode_region ?_)
  refine AOps_q 5 _ rfl rfl rfl (QOp_move _ _ rfl rfl) ?_
  refine AOps_q 6 _ rfl rfl rfl (QOp_move _ _ rfl rfl) ?_
  obtain ⟨r1, hr1, h⟩ := bindO h
  refine AOps_call [] 7 _ _ _ _ _ _ _ _ _ _ rfl rfl rfl rfl rfl rfl rfl Try.call42 rfl (nodupB_sound _ rfl) rfl rfl rfl (slices_Index_ac k p0 p1 _ hr1) ?_
  rintro _ _ ⟨rfl, rfl⟩
  refine ⟨(fun _ h => nomatch h), (allc (trivial) (fun _ h => nomatch h)), AOps_as 7 (v' := iV r1) (H' := []) rfl rfl ?_⟩
  refine AOps_q 8 _ rfl rfl rfl (QOp_geq _ _ _ _ _ _ _ rfl rfl rfl) ?_
  refine AOps_q 4 _ rfl rfl rfl (QOp_assign _ _ rfl rfl) ?_
  refine AOps_nil ?_
  refine ACode_ret ?_
  cases h
  exact ⟨_, _, fun r a w h => ⟨r, h⟩, _, _, [], _, (.cons (ResV_tmp _ _ rfl) .nil), rfl, rfl, rfl, rfl, rfl⟩

-- loop.example/g01362/impl.number
def impl_number (p0 : Int) (p1 : Int) : Int :=
  w64 ((w64 ((w64 ((if p0 < p1 then p1 else p0) * (w64 ((if p0 < p1 then p1 else p0) - 1)))).tdiv 2)) + (if p1 < p0 then p1 else p0))
set_option maxRecDepth 100000 in
theorem impl_number_ac (p0 : Int) (p1 : Int) : AC Try.prog 51 [iV p0, iV p1] [] (fun res H' => res = [iV (impl_number p0 p1)] ∧ H' = []) := by
  refine AC_of_body true Try.func51 rfl Try.ntmps51 (rvs := [.tmp 4]) rfl rfl (fun G hG => ?_)
  have hm : G.H.length = 0 := by rw [hG]; rfl
  obtain ⟨r, h⟩ : ∃ r, impl_number p0 p1 = r := ⟨_, rfl⟩
  rw [h]
  unfold impl_number at h
  refine ACode_seq (ACode_region ?_)
  refine AOps_q 4 _ rfl rfl rfl (QOp_assign _ _ rfl rfl) ?_
  refine AOps_nil ?_
  refine ACode_seq (ACode_region ?_)
  refine AOps_q 5 _ rfl rfl rfl (QOp_move _ _ rfl rfl) ?_
  refine AOps_q 6 _ rfl rfl rfl (QOp_move _ _ rfl rfl) ?_
  refine AOps_q 7 _ rfl rfl rfl (QOp_min _ _ _ _ _ _ rfl rfl rfl rfl rfl) ?_
  refine AOps_q 8 _ rfl rfl rfl (QOp_move _ _ rfl rfl) ?_
  refine AOps_q 9 _ rfl rfl rfl (QOp_move _ _ rfl rfl) ?_
  refine AOps_q 10 _ rfl rfl rfl (QOp_max _ _ _ _ _ _ rfl rfl rfl rfl rfl) ?_
  refine AOps_q 0 _ rfl rfl rfl (QOp_assign _ _ rfl rfl) ?_
  refine AOps_q 1 _ rfl rfl rfl (QOp_assign _ _ rfl rfl) ?_
  refine AOps_nil ?_
  refine ACode_seq (ACode_region ?_)
  refine AOps_q 11 _ rfl rfl rfl (QOp_move _ _ rfl rfl) ?_
  refine AOps_q 12 _ rfl rfl rfl (QOp_move _ _ rfl rfl) ?_
  refine AOps_q 13 _ rfl rfl rfl (QOp_sub _ _ _ _ _ _ _ rfl rfl rfl) ?_
  refine AOps_q 14 _ rfl rfl rfl (QOp_mul _ _ _ _ _ _ _ rfl rfl rfl) ?_
  refine AOps_q 15 _ rfl rfl rfl (QOp_quo _ _ _ _ _ _ _ (by decide) rfl rfl rfl) ?_
  refine AOps_q 16 _ rfl rfl rfl (QOp_move _ _ rfl rfl) ?_
  refine AOps_q 17 _ rfl rfl rfl (QOp_add _ _ _ _ _ _ _ rfl rfl rfl) ?_
  refine AOps_q 4 _ rfl rfl rfl (QOp_assign _ _ rfl rfl) ?_
  refine AOps_nil ?_
  refine ACode_ret ?_
  cases h
  exact ⟨_, _, fun r a w h => ⟨r, h⟩, _, _, [], _, (.cons (ResV_tmp _ _ rfl) .nil), rfl, rfl, rfl, rfl, rfl⟩

-- (*loop.example/g01362/impl.Colouring).put
def impl_Colouring_put (p0 : Col) (p1 : Int) (p2 : Int) (p3 : Int) : Option (Col) :=
  (if 0 ≤ (impl_number p1 p2) ∧ (impl_number p1 p2) < 136 then some (p0.set ((impl_number p1 p2).toNat) (toByte p3)) else none)
set_option maxRecDepth 100000 in
theorem impl_Colouring_put_ac (p0 : Col) (p1 : Int) (p2 : Int) (p3 : Int) (r : Col) (h : impl_Colouring_put p0 p1 p2 p3 = some r) : AC Try.prog 43 [.ptr 0 0, iV p1, iV p2, iV p3] [.box (colD p0)] (fun res H' => res = [] ∧ H' = [.box (colD r)]) := by
  refine AC_of_body true Try.func43 rfl Try.ntmps43 (rvs := []) rfl rfl (fun G hG => ?_)
  have hm : G.H.length = 1 := by rw [hG]; rfl
  unfold impl_Colouring_put at h
  refine (ACode_last (l := [_, _, _, _, _, _, _, _, _]) mixed (by kernel_rfl) (by kernel_rfl) ?_)
  refine AQ_q 8 _ rfl rfl rfl (QOp_move _ _ rfl rfl) ?_
  refine AQ_q 9 _ rfl rfl rfl (QOp_move _ _ rfl rfl) ?_
  refine AQ_q 10 _ rfl rfl rfl (QOp_move _ _ rfl rfl) ?_
  refine AQ_call 11 _ _ _ _ _ _ _ _ _ rfl rfl rfl rfl rfl rfl rfl Try.call51 rfl rfl rfl (impl_number_ac p1 p2) ?_
  refine AQ_q 12 _ rfl rfl rfl (QOp_move _ _ rfl rfl) ?_
  refine AQ_q 13 _ rfl rfl rfl (QOp_toByte _ _ _ _ _ rfl rfl Try.underlying5 rfl) ?_
  refine AQ_q 14 _ rfl rfl rfl (QOp_nilCheck_ptr _ _ _ _ rfl rfl rfl rfl) ?_
  refine AQ_q 15 _ rfl rfl rfl (QOp_fieldAddr_ptr _ _ _ _ _ _ 2 _ _ rfl Try.underlying31 rfl _ Try.sizeOf25 rfl rfl rfl rfl) ?_
  obtain ⟨hc2, h⟩ := guardO h
  refine AQ_q 16 _ rfl rfl rfl (QOp_indexAddrA_ptr _ _ _ _ _ _ _ _ _ _ rfl Try.underlying25 Try.sizeOf5 hc2.1 hc2.2 rfl rfl rfl rfl) ?_
  refine AQ_nil ?_
  refine AOps_store1 _ _ _ _ _ _ (colD (p0.set ((impl_number p1 p2).toNat) (toByte p3))) _ rfl rfl rfl rfl rfl rfl rfl Try.sizeOf5 (by rw [colD_length]; omega) (colD_setE p0 ((impl_number p1 p2).toNat) (toByte p3)) ?_
  refine AOps_nil ?_
  cases h
  exact ⟨_, _, fun r a w h => ⟨r, h⟩, _, _, [], _, .nil, rfl, rfl, rfl, rfl, rfl⟩

-- loop.example/g01362/impl.made
def impl_made_l1 (p2 : Int → Int → Option (Int)) (x1 : Int) : Nat → Int → Col → Option (Col)
  | 0, _, _ => none
  | k1 + 1, x4, x5 => (if decide (x4 < x1) then (p2 x4 x1).bind fun r7 => (impl_Colouring_put x5 x4 x1 r7).bind fun r8 => impl_made_l1 p2 x1 k1 (w64 (x4 + 1)) r8 else some x5)
def impl_made_l0 (k : Nat) (p0 : Int) (p2 : Int → Int → Option (Int)) : Nat → Int → Col → Option (Col)
  | 0, _, _ => none
  | k0 + 1, x1, x2 => (if decide (x1 < p0) then (impl_made_l1 p2 x1 k 0 x2 : Option (Col)).bind fun s9 => impl_made_l0 k p0 p2 k0 (w64 (x1 + 1)) s9 else some x2)
def impl_made (k : Nat) (p0 : Int) (p1 : Int) (p2 : Int → Int → Option (Int)) : Option (Col) :=
  (impl_made_l0 k p0 p2 k 0 (⟨p0, p1, B136.zero⟩ : Col) : Option (Col)).bind fun s10 => some s10
set_option maxRecDepth 100000 in
theorem impl_made_ac (k : Nat) (p0 : Int) (p1 : Int) (p2 : Int → Int → Option (Int)) (g_p2 : FuncId) (c_p2 : List D) (hg_p2 : ∀ args w, (callFunc g_p2 args).run Try.prog w = .ok (.enter g_p2 args) w) (hf_p2 : ∀ (a0 : Int) (a1 : Int) (r : Int), p2 a0 a1 = some r → AC Try.prog g_p2 ([iV a0, iV a1] ++ c_p2.map AV.d) [] (fun res H' => res = [iV r] ∧ H' = [])) (r : Col) (h : impl_made k p0 p1 p2 = some r) : AC Try.prog 33 [iV p0, iV p1, .d (.clo g_p2 c_p2)] [] (fun res H' => res = [.d (.agg (colD r))] ∧ H' = []) := by
  refine AC_of_body true Try.func33 rfl Try.ntmps33 (rvs := [.cell 6 31]) rfl rfl (fun G hG => ?_)
  have hm : G.H.length = 0 := by rw [hG]; rfl
  unfold impl_made at h
  refine ACode_seq (ACode_region ?_)
  refine AOps_alloc 6 _ _ (colD Col.zero) (zero_of Try.typeInfo31 rfl) (by rfl) rfl rfl rfl rfl ?_
  refine AOps_nil ?_
  refine ACode_seq (ACode_region ?_)
  refine AOps_q 10 _ rfl rfl rfl (QOp_move _ _ rfl rfl) ?_
  refine AOps_q 11 _ rfl rfl rfl (QOp_move _ _ rfl rfl) ?_
  refine AOps_q 12 _ rfl rfl rfl (QOp_build _ _ [_, _] [0, 1] [iD p0, iD p1] _ (colD Col.zero) (colD (⟨p0, p1, B136.zero⟩ : Col)) [(0, 1), (1, 1), (2, 136)] rfl rfl Try.underlying31 (zero_of Try.typeInfo31 rfl) (fun w => by simp [Try.sizeOf2, Try.sizeOf2, Try.sizeOf25]) rfl (by rfl) (by rfl) (allc (ok1 rfl) (allc (ok1 rfl) (fun _ h => nomatch h)))) ?_
  refine AOps_alloc 7 _ _ (colD Col.zero) (zero_of Try.typeInfo31 rfl) (by rfl) rfl rfl rfl rfl ?_
  refine AOps_store _ _ _ _ _ _ (colD _) _ _ rfl rfl rfl rfl rfl rfl rfl (colD_one _) (by rw [colD_length]; exact Try.sizeOf31) (by rw [colD_length, colD_length]; decide) (colD_whole _ _) ?_
  refine AOps_nil ?_
  obtain ⟨s10, hss10, hks10⟩ := bindO h
  clear h
  refine ACode_seqJ (fun E' H' => Weak 31 G E' H' [(6, .ptr 0 0), (7, .ptr 1 0)] [.box (colD Col.zero), .box (colD s10)]) ?_ ?_
  · have h := hss10
    clear hss10
    refine ACode_seq (ACode_region ?_)
    refine AOps_q 13 _ rfl rfl rfl (QOp_move _ _ rfl rfl) ?_
    refine AOps_q 14 _ rfl rfl rfl (QOp_move _ _ rfl rfl) ?_
    refine AOps_nil ?_
    refine ACode_block ?_
    refine ACode_loopW (fun k0 E H => ∃ (x1 : Int) (x2 : Col), E = [(2, .d (.clo g_p2 c_p2)), (6, .ptr 0 0), (7, .ptr 1 0), (13, iV p0), (14, iV x1)] ∧ H = [.box (colD Col.zero), .box (colD x2)] ∧ impl_made_l0 k p0 p2 k0 x1 x2 = some s10) k _ _ (Weak_keep 0 hm [2, 6, 7, 13, 14] [0, 1] _ _ rfl rfl rfl) ⟨_, _, rfl, rfl, h⟩ ?_
    clear h
    rintro k0 E H ⟨x1, x2, rfl, rfl, h⟩
    cases k0 with
    | zero => cases (show (none : Option (Col)) = some _ from h)
    | succ k0 =>
      rw [impl_made_l0] at h
      refine ACode_seq (ACode_region ?_)
      refine AOps_q 15 _ rfl rfl rfl (QOp_lss _ _ _ _ _ _ _ rfl rfl rfl) ?_
      refine AOps_nil ?_
      refine ACode_seq ?_
      refine ACode_cond _ rfl (fun hb3 => ?_) (fun hb3 => ?_)
      · have h := iteT hb3 h
        refine ACode_skip ?_
        obtain ⟨s9, hss9, hks9⟩ := bindO h
        clear h
        refine ACode_seqJ (fun E' H' => Weak 31 G E' H' [(2, .d (.clo g_p2 c_p2)), (6, .ptr 0 0), (7, .ptr 1 0), (13, iV p0), (14, iV x1)] [.box (colD Col.zero), .box (colD s9)]) ?_ ?_
        · have h := hss9
          clear hss9
          refine ACode_block ?_
          refine ACode_seq (ACode_region ?_)
          refine AOps_q 16 _ rfl rfl rfl (QOp_move _ _ rfl rfl) ?_
          refine AOps_q 8 _ rfl rfl rfl (QOp_assign _ _ rfl rfl) ?_
          refine AOps_nil ?_
          refine ACode_seq (ACode_region ?_)
          refine AOps_q 17 _ rfl rfl rfl (QOp_move _ _ rfl rfl) ?_
          refine AOps_q 18 _ rfl rfl rfl (QOp_move _ _ rfl rfl) ?_
          refine AOps_nil ?_
          refine ACode_block ?_
          refine ACode_loopW (fun k1 E H => ∃ (x4 : Int) (x5 : Col), E = [(2, .d (.clo g_p2 c_p2)), (6, .ptr 0 0), (7, .ptr 1 0), (8, iV x1), (13, iV p0), (14, iV x1), (17, iV x1), (18, iV x4)] ∧ H = [.box (colD Col.zero), .box (colD x5)] ∧ impl_made_l1 p2 x1 k1 x4 x5 = some s9) k _ _ (Weak_keep 0 hm [2, 6, 7, 8, 13, 14, 17, 18] [0, 1] _ _ rfl rfl rfl) ⟨_, _, rfl, rfl, h⟩ ?_
          clear h
          rintro k1 E H ⟨x4, x5, rfl, rfl, h⟩
          cases k1 with
          | zero => cases (show (none : Option (Col)) = some _ from h)
          | succ k1 =>
            rw [impl_made_l1] at h
            refine ACode_seq (ACode_region ?_)
            refine AOps_q 19 _ rfl rfl rfl (QOp_lss _ _ _ _ _ _ _ rfl rfl rfl) ?_
            refine AOps_nil ?_
            refine ACode_seq ?_
            refine ACode_cond _ rfl (fun hb6 => ?_) (fun hb6 => ?_)
            · have h := iteT hb6 h
              refine ACode_skip ?_
              refine ACode_seq ?_
              refine ACode_block ?_
              refine ACode_seq (ACode_region ?_)
              refine AOps_q 20 _ rfl rfl rfl (QOp_move _ _ rfl rfl) ?_
              refine AOps_q 9 _ rfl rfl rfl (QOp_assign _ _ rfl rfl) ?_
              refine AOps_nil ?_
              refine (ACode_region ?_)
              refine AOps_q 21 _ rfl rfl rfl (QOp_move _ _ rfl rfl) ?_
              refine AOps_q 22 _ rfl rfl rfl (QOp_move _ _ rfl rfl) ?_
              refine AOps_q 23 _ rfl rfl rfl (QOp_move _ _ rfl rfl) ?_
              refine AOps_q 24 _ rfl rfl rfl (QOp_move _ _ rfl rfl) ?_
              refine AOps_q 25 _ rfl rfl rfl (QOp_move _ _ rfl rfl) ?_
              obtain ⟨r7, hr7, h⟩ := bindO h
              refine AOps_call [] 26 _ _ _ _ _ _ _ _ _ _ rfl rfl rfl rfl rfl rfl rfl hg_p2 rfl (nodupB_sound _ rfl) rfl rfl (viewA_mapD _) (hf_p2 x4 x1 _ hr7) ?_
              rintro _ _ ⟨rfl, rfl⟩
              refine ⟨(fun _ h => nomatch h), (allc (trivial) (fun _ h => nomatch h)), AOps_as 26 (v' := iV r7) (H' := [.box (colD Col.zero), .box (colD x5)]) rfl rfl ?_⟩
              obtain ⟨r8, hr8, h⟩ := bindO h
              refine AOps_call [1] 27 _ _ _ _ _ _ _ _ _ _ rfl rfl rfl rfl rfl rfl rfl Try.call43 rfl (nodupB_sound _ rfl) rfl rfl rfl (impl_Colouring_put_ac x5 x4 x1 r7 _ hr8) ?_
              rintro _ _ ⟨rfl, rfl⟩
              refine ⟨(allc (fun _ _ => trivial) (fun _ h => nomatch h)), (fun _ h => nomatch h), AOps_as 27 (v' := .tup []) (H' := [.box (colD Col.zero), .box (colD r8)]) rfl rfl ?_⟩
              refine AOps_nil ?_
              refine (ACode_region ?_)
              refine AOps_q 28 _ rfl rfl rfl (QOp_add _ _ _ _ _ _ _ rfl rfl rfl) ?_
              refine AOps_q 18 _ rfl rfl rfl (QOp_move _ _ rfl rfl) ?_
              refine AOps_nil ?_
              exact ⟨k1, _, _, Nat.lt_succ_self _, Weak_keep 0 hm [2, 6, 7, 8, 13, 14, 17, 18] [0, 1] _ _ rfl rfl rfl, _, _, rfl, rfl, h⟩
            · have h := iteF hb6 h
              refine ACode_exit ?_
              cases h
              exact Weak_keep 0 hm [2, 6, 7, 13, 14] [0, 1] _ _ rfl rfl rfl
        intro E' H' hw
        refine ACode_weak hw ?_
        have h := hks9
        refine (ACode_region ?_)
        refine AOps_q 29 _ rfl rfl rfl (QOp_add _ _ _ _ _ _ _ rfl rfl rfl) ?_
        refine AOps_q 14 _ rfl rfl rfl (QOp_move _ _ rfl rfl) ?_
        refine AOps_nil ?_
        exact ⟨k0, _, _, Nat.lt_succ_self _, Weak_keep 0 hm [2, 6, 7, 13, 14] [0, 1] _ _ rfl rfl rfl, _, _, rfl, rfl, h⟩
      · have h := iteF hb3 h
        refine ACode_exit ?_
        cases h
        exact Weak_keep 0 hm [6, 7] [0, 1] _ _ rfl rfl rfl
  intro E' H' hw
  refine ACode_weak hw ?_
  have h := hks10
  refine ACode_seq (ACode_region ?_)
  refine AOps_q 30 _ rfl rfl rfl (QOp_loadN_ptr _ _ _ _ _ _ _ rfl Try.isAgg31 Try.sizeOf31 rfl rfl (colD_all _) (colD_length _)) ?_
  refine AOps_store _ _ _ _ _ _ (colD _) _ _ rfl rfl rfl rfl rfl rfl rfl (colD_one _) (by rw [colD_length]; exact Try.sizeOf31) (by rw [colD_length, colD_length]; decide) (colD_whole _ _) ?_
  refine AOps_nil ?_
  refine ACode_ret ?_
  cases h
  exact ⟨_, _, fun r a w h => ⟨r, h⟩, _, _, [], _, (.cons (ResV_agg _ _ _ _ _ _ Try.isAgg31 Try.sizeOf31 rfl rfl (colD_take _) (colD_length _)) .nil), rfl, rfl, rfl, rfl, rfl⟩

-- loop.example/g01362/impl.SequenceColouring$1
def impl_SequenceColouring_c1 (p0 : Int) (p1 : Int) (p2 : List Int) : Option (Int) :=
  (if 0 ≤ p0 ∧ p0 < (p2.length : Int) then (if 0 ≤ p1 ∧ p1 < (p2.length : Int) then (if decide ((p2.getD p0.toNat 0) < (p2.getD p1.toNat 0)) then some 0 else some 1) else none) else none)
set_option maxRecDepth 100000 in
theorem impl_SequenceColouring_c1_ac (p0 : Int) (p1 : Int) (p2 : List Int) (r : Int) (h : impl_SequenceColouring_c1 p0 p1 p2 = some r) : AC Try.prog 34 [iV p0, iV p1, .d (.pv ([.sl none (intsD p2)]) 0)] [] (fun res H' => res = [iV r] ∧ H' = []) := by
  refine AC_of_body true Try.func34 rfl Try.ntmps34 (rvs := [.tmp 5]) rfl rfl (fun G hG => ?_)
  have hm : G.H.length = 0 := by rw [hG]; rfl
  unfold impl_SequenceColouring_c1 at h
  refine ACode_seq (ACode_region ?_)
  refine AOps_q 5 _ rfl rfl rfl (QOp_assign _ _ rfl rfl) ?_
  refine AOps_nil ?_
  refine ACode_seq ?_
  refine ACode_seq (ACode_quiet mixed (by kernel_rfl) ?_)
  refine AQ_q 6 _ rfl rfl rfl (QOp_load_pv _ _ _ _ _ rfl Try.isAgg36 rfl rfl) ?_
  refine AQ_q 7 _ rfl rfl rfl (QOp_move _ _ rfl rfl) ?_
  obtain ⟨hc1, h⟩ := guardO h
  refine AQ_q 8 _ rfl rfl rfl (QOp_indexAddr_sl _ _ _ _ _ _ _ _ rfl Try.underlying36 Try.sizeOf2 hc1.1 (by rw [intsD_length]; exact hc1.2) rfl rfl) ?_
  refine AQ_q 9 _ rfl rfl rfl (QOp_load_pv _ _ _ _ _ rfl Try.isAgg2 rfl (intsD_get _ _ 0 (by omega))) ?_
  refine AQ_q 10 _ rfl rfl rfl (QOp_load_pv _ _ _ _ _ rfl Try.isAgg36 rfl rfl) ?_
  refine AQ_q 11 _ rfl rfl rfl (QOp_move _ _ rfl rfl) ?_
  obtain ⟨hc2, h⟩ := guardO h
  refine AQ_q 12 _ rfl rfl rfl (QOp_indexAddr_sl _ _ _ _ _ _ _ _ rfl Try.underlying36 Try.sizeOf2 hc2.1 (by rw [intsD_length]; exact hc2.2) rfl rfl) ?_
  refine AQ_q 13 _ rfl rfl rfl (QOp_load_pv _ _ _ _ _ rfl Try.isAgg2 rfl (intsD_get _ _ 0 (by omega))) ?_
  refine AQ_q 14 _ rfl rfl rfl (QOp_lss _ _ _ _ _ _ _ rfl rfl rfl) ?_
  refine AQ_nil ?_
  refine ACode_cond _ rfl (fun hb3 => ?_) (fun hb3 => ?_)
  · have h := iteT hb3 h
    refine ACode_seq (ACode_region ?_)
    refine AOps_q 5 _ rfl rfl rfl (QOp_assign _ _ rfl rfl) ?_
    refine AOps_nil ?_
    refine ACode_ret ?_
    cases h
    exact ⟨_, _, fun r a w h => ⟨r, h⟩, _, _, [], _, (.cons (ResV_tmp _ _ rfl) .nil), rfl, rfl, rfl, rfl, rfl⟩
  · have h := iteF hb3 h
    refine ACode_skip ?_
    refine ACode_seq (ACode_region ?_)
    refine AOps_q 5 _ rfl rfl rfl (QOp_assign _ _ rfl rfl) ?_
    refine AOps_nil ?_
    refine ACode_ret ?_
    cases h
    exact ⟨_, _, fun r a w h => ⟨r, h⟩, _, _, [], _, (.cons (ResV_tmp _ _ rfl) .nil), rfl, rfl, rfl, rfl, rfl⟩

-- loop.example/g01362/impl.SequenceColouring
def impl_SequenceColouring_l0 (k : Nat) (p0 : List Int) : Nat → Int → Col → Option (Sum (Col) (Col × Int))
  | 0, _, _ => none
  | k0 + 1, x4, x5 => (if decide (x4 < (p0.length : Int)) then (if 0 ≤ x4 ∧ x4 < (p0.length : Int) then (if 0 ≤ 0 ∧ 0 ≤ x4 ∧ x4 ≤ (p0.length : Int) then (slices_Contains k ((p0.take x4.toNat).drop 0) (p0.getD x4.toNat 0)).bind fun r9 => (if r9 then some (.inr ((⟨0, 0, B136.zero⟩ : Col), 2)) else impl_SequenceColouring_l0 k p0 k0 (w64 (x4 + 1)) x5) else none) else none) else some (.inl x5))
def impl_SequenceColouring (k : Nat) (p0 : List Int) : Option (Col × Int) :=
  (if !(impl_in (impl_size p0) 1 17) then some ((⟨0, 0, B136.zero⟩ : Col), 2) else (impl_SequenceColouring_l0 k p0 k 0 Col.zero : Option (Sum (Col) (Col × Int))).bind fun os11 => (match os11 with | .inl s11 => (impl_made k (impl_size p0) 2 (fun a0 a1 => impl_SequenceColouring_c1 a0 a1 p0)).bind fun r12 => some (r12, 0) | .inr rr => some rr))
set_option maxRecDepth 100000 in
theorem impl_SequenceColouring_ac (k : Nat) (p0 : List Int) (r : Col × Int) (h : impl_SequenceColouring k p0 = some r) : AC Try.prog 17 [.d (.sl none (intsD p0))] [] (fun res H' => res = [.d (.agg (colD r.1)), iV r.2] ∧ H' = []) := by
  refine AC_of_body true Try.func17 rfl Try.ntmps17 (rvs := [.cell 2 31, .tmp 3]) rfl rfl (fun G hG => ?_)
  have hm : G.H.length = 0 := by rw [hG]; rfl
  unfold impl_SequenceColouring at h
  refine ACode_seq (ACode_region ?_)
  refine AOps_boxI 1 _ _ (.sl none (intsD p0)) _ rfl (fun c hc => by cases hc with | head => rfl | tail _ h => cases h) rfl rfl rfl rfl rfl ?_
  refine AOps_alloc 2 _ _ (colD Col.zero) (zero_of Try.typeInfo31 rfl) (by rfl) rfl rfl rfl rfl ?_
  refine AOps_q 3 _ rfl rfl rfl (QOp_assign _ _ rfl rfl) ?_
  refine AOps_nil ?_
  refine ACode_seq (ACode_region ?_)
  refine AOps_q 7 _ rfl rfl rfl (QOp_load_pv _ _ _ _ _ rfl Try.isAgg36 rfl rfl) ?_
  refine AOps_call [] 8 _ _ _ _ _ _ _ _ _ _ rfl rfl rfl rfl rfl rfl rfl Try.call31 rfl (nodupB_sound _ rfl) rfl rfl rfl (impl_size_ac p0) ?_
  rintro _ _ ⟨rfl, rfl⟩
  refine ⟨(fun _ h => nomatch h), (allc (trivial) (fun _ h => nomatch h)), AOps_as 8 (v' := iV (impl_size p0)) (H' := [.box (colD Col.zero)]) rfl rfl ?_⟩
  refine AOps_q 4 _ rfl rfl rfl (QOp_assign _ _ rfl rfl) ?_
  refine AOps_nil ?_
  refine ACode_seq ?_
  refine ACode_seq (ACode_region ?_)
  refine AOps_q 9 _ rfl rfl rfl (QOp_move _ _ rfl rfl) ?_
  refine AOps_call [] 10 _ _ _ _ _ _ _ _ _ _ rfl rfl rfl rfl rfl rfl rfl Try.call26 rfl (nodupB_sound _ rfl) rfl rfl rfl (impl_in_ac (impl_size p0) 1 17) ?_
  rintro _ _ ⟨rfl, rfl⟩
  refine ⟨(fun _ h => nomatch h), (allc (trivial) (fun _ h => nomatch h)), AOps_as 10 (v' := bV (impl_in (impl_size p0) 1 17)) (H' := [.box (colD Col.zero)]) rfl rfl ?_⟩
  refine AOps_q 11 _ rfl rfl rfl (QOp_not _ _ _ rfl rfl) ?_
  refine AOps_nil ?_
  refine ACode_cond _ rfl (fun hb3 => ?_) (fun hb3 => ?_)
  · have h := iteT hb3 h
    refine ACode_seq (ACode_region ?_)
    refine AOps_q 12 _ rfl rfl rfl (QOp_build _ _ [] [] [] _ (colD Col.zero) (colD (⟨0, 0, B136.zero⟩ : Col)) [(0, 1), (1, 1), (2, 136)] rfl rfl Try.underlying31 (zero_of Try.typeInfo31 rfl) (fun w => by simp [Try.sizeOf2, Try.sizeOf2, Try.sizeOf25]) rfl (by rfl) (by rfl) (fun _ h => nomatch h)) ?_
    refine AOps_store _ _ _ _ _ _ (colD _) _ _ rfl rfl rfl rfl rfl rfl rfl (colD_one _) (by rw [colD_length]; exact Try.sizeOf31) (by rw [colD_length, colD_length]; decide) (colD_whole _ _) ?_
    refine AOps_q 3 _ rfl rfl rfl (QOp_assign _ _ rfl rfl) ?_
    refine AOps_nil ?_
    refine ACode_ret ?_
    cases h
    exact ⟨_, _, fun r a w h => ⟨r, h⟩, _, _, [], _, (.cons (ResV_agg _ _ _ _ _ _ Try.isAgg31 Try.sizeOf31 rfl rfl (colD_take _) (colD_length _)) (.cons (ResV_tmp _ _ rfl) .nil)), rfl, rfl, rfl, rfl, rfl⟩
  · have h := iteF hb3 h
    refine ACode_skip ?_
    obtain ⟨os11, hss11, hks11⟩ := bindO h
    clear h
    refine ACode_seqJ (fun E' H' => ∃ s11 : Col, os11 = .inl s11 ∧ Weak 30 G E' H' [(1, .d (.pv ([.sl none (intsD p0)]) 0)), (2, .ptr 0 0), (4, iV (impl_size p0))] [.box (colD s11)]) ?_ ?_
    · have h := hss11
      clear hss11
      refine ACode_seq (ACode_region ?_)
      refine AOps_q 13 _ rfl rfl rfl (QOp_load_pv _ _ _ _ _ rfl Try.isAgg36 rfl rfl) ?_
      refine AOps_q 14 _ rfl rfl rfl (QOp_len_sl _ _ _ _ _ _ _ (intsD_length _) rfl rfl rfl rfl Try.underlying36 rfl) ?_
      refine AOps_q 15 _ rfl rfl rfl (QOp_move _ _ rfl rfl) ?_
      refine AOps_nil ?_
      refine ACode_block ?_
      refine ACode_loopW (fun k0 E H => ∃ (x4 : Int) (x5 : Col), E = [(1, .d (.pv ([.sl none (intsD p0)]) 0)), (2, .ptr 0 0), (4, iV (impl_size p0)), (13, .d (.sl none (intsD p0))), (14, iV (p0.length : Int)), (15, iV x4)] ∧ H = [.box (colD x5)] ∧ impl_SequenceColouring_l0 k p0 k0 x4 x5 = some os11) k _ _ (Weak_keep 0 hm [1, 2, 4, 13, 14, 15] [0] _ _ rfl rfl rfl) ⟨_, _, rfl, rfl, h⟩ ?_
      clear h
      rintro k0 E H ⟨x4, x5, rfl, rfl, h⟩
      cases k0 with
      | zero => cases (show (none : Option (Sum (Col) (Col × Int))) = some _ from h)
      | succ k0 =>
        rw [impl_SequenceColouring_l0] at h
        refine ACode_seq (ACode_region ?_)
        refine AOps_q 16 _ rfl rfl rfl (QOp_lss _ _ _ _ _ _ _ rfl rfl rfl) ?_
        refine AOps_nil ?_
        refine ACode_seq ?_
        refine ACode_cond _ rfl (fun hb6 => ?_) (fun hb6 => ?_)
        · have h := iteT hb6 h
          refine ACode_skip ?_
          refine ACode_seq ?_
          refine ACode_block ?_
          refine ACode_seq (ACode_region ?_)
          refine AOps_q 17 _ rfl rfl rfl (QOp_move _ _ rfl rfl) ?_
          obtain ⟨hc7, h⟩ := guardO h
          refine AOps_q 18 _ rfl rfl rfl (QOp_indexAddr_sl _ _ _ _ _ _ _ _ rfl Try.underlying36 Try.sizeOf2 hc7.1 (by rw [intsD_length]; exact hc7.2) rfl rfl) ?_
          refine AOps_q 19 _ rfl rfl rfl (QOp_load_pv _ _ _ _ _ rfl Try.isAgg2 rfl (intsD_get _ _ 0 (by omega))) ?_
          refine AOps_q 5 _ rfl rfl rfl (QOp_assign _ _ rfl rfl) ?_
          refine AOps_q 6 _ rfl rfl rfl (QOp_assign _ _ rfl rfl) ?_
          refine AOps_nil ?_
          refine ACode_seq (ACode_region ?_)
          refine AOps_q 20 _ rfl rfl rfl (QOp_load_pv _ _ _ _ _ rfl Try.isAgg36 rfl rfl) ?_
          refine AOps_q 21 _ rfl rfl rfl (QOp_move _ _ rfl rfl) ?_
          obtain ⟨hc8, h⟩ := guardO h
          refine AOps_q 22 _ rfl rfl rfl (QOp_slice_sl _ _ _ _ _ _ _ _ (0) (x4.toNat) rfl Try.underlying36 Try.sizeOf2 rfl rfl ⟨_, by rw [Int.toNat_of_nonneg (by omega)]; rfl⟩ (by omega) (by rw [intsD_length]; omega) (intsD_part _ _ _)) ?_
          refine AOps_q 23 _ rfl rfl rfl (QOp_move _ _ rfl rfl) ?_
          obtain ⟨r9, hr9, h⟩ := bindO h
          refine AOps_call [] 24 _ _ _ _ _ _ _ _ _ _ rfl rfl rfl rfl rfl rfl rfl Try.call32 rfl (nodupB_sound _ rfl) rfl rfl rfl (slices_Contains_ac k ((p0.take x4.toNat).drop 0) (p0.getD x4.toNat 0) _ hr9) ?_
          rintro _ _ ⟨rfl, rfl⟩
          refine ⟨(fun _ h => nomatch h), (allc (trivial) (fun _ h => nomatch h)), AOps_as 24 (v' := bV r9) (H' := [.box (colD x5)]) rfl rfl ?_⟩
          refine AOps_nil ?_
          refine ACode_cond _ rfl (fun hb10 => ?_) (fun hb10 => ?_)
          · have h := iteT hb10 h
            refine ACode_seq (ACode_region ?_)
            refine AOps_q 25 _ rfl rfl rfl (QOp_build _ _ [] [] [] _ (colD Col.zero) (colD (⟨0, 0, B136.zero⟩ : Col)) [(0, 1), (1, 1), (2, 136)] rfl rfl Try.underlying31 (zero_of Try.typeInfo31 rfl) (fun w => by simp [Try.sizeOf2, Try.sizeOf2, Try.sizeOf25]) rfl (by rfl) (by rfl) (fun _ h => nomatch h)) ?_
            refine AOps_store _ _ _ _ _ _ (colD _) _ _ rfl rfl rfl rfl rfl rfl rfl (colD_one _) (by rw [colD_length]; exact Try.sizeOf31) (by rw [colD_length, colD_length]; decide) (colD_whole _ _) ?_
            refine AOps_q 3 _ rfl rfl rfl (QOp_assign _ _ rfl rfl) ?_
            refine AOps_nil ?_
            refine ACode_ret ?_
            cases h
            have h := hks11
            cases h
            exact ⟨_, _, fun r a w h => ⟨r, h⟩, _, _, [], _, (.cons (ResV_agg _ _ _ _ _ _ Try.isAgg31 Try.sizeOf31 rfl rfl (colD_take _) (colD_length _)) (.cons (ResV_tmp _ _ rfl) .nil)), rfl, rfl, rfl, rfl, rfl⟩
          · have h := iteF hb10 h
            refine ACode_skip ?_
            refine (ACode_region ?_)
            refine AOps_q 26 _ rfl rfl rfl (QOp_add _ _ _ _ _ _ _ rfl rfl rfl) ?_
            refine AOps_q 15 _ rfl rfl rfl (QOp_move _ _ rfl rfl) ?_
            refine AOps_nil ?_
            exact ⟨k0, _, _, Nat.lt_succ_self _, Weak_keep 0 hm [1, 2, 4, 13, 14, 15] [0] _ _ rfl rfl rfl, _, _, rfl, rfl, h⟩
        · have h := iteF hb6 h
          refine ACode_exit ?_
          cases h
          exact ⟨_, rfl, Weak_keep 0 hm [1, 2, 4] [0] _ _ rfl rfl rfl⟩
    rintro E' H' ⟨s11, rfl, hw⟩
    refine ACode_weak hw ?_
    have h := hks11
    refine ACode_seq (ACode_region ?_)
    refine AOps_q 27 _ rfl rfl rfl (QOp_move _ _ rfl rfl) ?_
    refine AOps_q 28 _ rfl rfl rfl (QOp_makeFuncD _ _ _ _ rfl rfl rfl) ?_
    obtain ⟨r12, hr12, h⟩ := bindO h
    refine AOps_call [] 29 _ _ _ _ _ _ _ _ _ _ rfl rfl rfl rfl rfl rfl rfl Try.call33 rfl (nodupB_sound _ rfl) rfl rfl rfl (impl_made_ac k (impl_size p0) 2 (fun a0 a1 => impl_SequenceColouring_c1 a0 a1 p0) 34 ([.pv ([.sl none (intsD p0)]) 0]) Try.call34 (fun a0 a1 r h => impl_SequenceColouring_c1_ac a0 a1 p0 r h) _ hr12) ?_
    rintro _ _ ⟨rfl, rfl⟩
    refine ⟨(fun _ h => nomatch h), (allc (trivial) (fun _ h => nomatch h)), AOps_as 29 (v' := .d (.agg (colD r12))) (H' := [.box (colD s11)]) rfl rfl ?_⟩
    refine AOps_store _ _ _ _ _ _ (colD _) _ _ rfl rfl rfl rfl rfl rfl rfl (colD_one _) (by rw [colD_length]; exact Try.sizeOf31) (by rw [colD_length, colD_length]; decide) (colD_whole _ _) ?_
    refine AOps_q 3 _ rfl rfl rfl (QOp_assign _ _ rfl rfl) ?_
    refine AOps_nil ?_
    refine ACode_ret ?_
    cases h
    exact ⟨_, _, fun r a w h => ⟨r, h⟩, _, _, [], _, (.cons (ResV_agg _ _ _ _ _ _ Try.isAgg31 Try.sizeOf31 rfl rfl (colD_take _) (colD_length _)) (.cons (ResV_tmp _ _ rfl) .nil)), rfl, rfl, rfl, rfl, rfl⟩

-- loop.example/g01362/laws.eqByteA136
def laws_eqByteA136_l0 (p0 : B136) (p1 : B136) : Nat → Int → Option (Sum (Unit) (Bool))
  | 0, _ => none
  | k0 + 1, x1 => (if decide (x1 < 136) then (if 0 ≤ x1 ∧ x1 < 136 then (if 0 ≤ x1 ∧ x1 < 136 then (if !decide (((p0.get x1.toNat).toNat : Int) = ((p1.get x1.toNat).toNat : Int)) then some (.inr false) else laws_eqByteA136_l0 p0 p1 k0 (w64 (x1 + 1))) else none) else none) else some (.inl ()))
def laws_eqByteA136 (k : Nat) (p0 : B136) (p1 : B136) : Option (Bool) :=
  (laws_eqByteA136_l0 p0 p1 k 0 : Option (Sum (Unit) (Bool))).bind fun os6 => (match os6 with | .inl s6 => some true | .inr rr => some rr)
set_option maxRecDepth 100000 in
theorem laws_eqByteA136_ac (k : Nat) (p0 : B136) (p1 : B136) (r : Bool) (h : laws_eqByteA136 k p0 p1 = some r) : AC Try.prog 35 [.d (.agg (byD p0)), .d (.agg (byD p1))] [] (fun res H' => res = [bV r] ∧ H' = []) := by
  refine AC_of_body true Try.func35 rfl Try.ntmps35 (rvs := [.tmp 4]) rfl rfl (fun G hG => ?_)
  have hm : G.H.length = 0 := by rw [hG]; rfl
  unfold laws_eqByteA136 at h
  refine ACode_seq (ACode_region ?_)
  refine AOps_boxI 2 _ _ (.agg (byD p0)) (byD p0) rfl (byD_one _) rfl rfl rfl rfl rfl ?_
  refine AOps_boxI 3 _ _ (.agg (byD p1)) (byD p1) rfl (byD_one _) rfl rfl rfl rfl rfl ?_
  refine AOps_q 4 _ rfl rfl rfl (QOp_assign _ _ rfl rfl) ?_
  refine AOps_nil ?_
  obtain ⟨os6, hss6, hks6⟩ := bindO h
  clear h
  refine ACode_seqJ (fun E' H' => ∃ s6 : Unit, os6 = .inl s6 ∧ Weak 17 G E' H' [] []) ?_ ?_
  · have h := hss6
    clear hss6
    refine ACode_seq (ACode_region ?_)
    refine AOps_q 5 _ rfl rfl rfl (QOp_assign _ _ rfl rfl) ?_
    refine AOps_nil ?_
    refine ACode_block ?_
    refine ACode_loopW (fun k0 E H => ∃ (x1 : Int), E = [(2, .d (.pv (byD p0) 0)), (3, .d (.pv (byD p1) 0)), (5, iV x1)] ∧ H = [] ∧ laws_eqByteA136_l0 p0 p1 k0 x1 = some os6) k _ _ (Weak_keep 0 hm [2, 3, 5] [] _ _ rfl rfl rfl) ⟨_, rfl, rfl, h⟩ ?_
    clear h
    rintro k0 E H ⟨x1, rfl, rfl, h⟩
    cases k0 with
    | zero => cases (show (none : Option (Sum (Unit) (Bool))) = some _ from h)
    | succ k0 =>
      rw [laws_eqByteA136_l0] at h
      refine ACode_seq ?_
      refine ACode_seq (ACode_region ?_)
      refine AOps_q 6 _ rfl rfl rfl (QOp_move _ _ rfl rfl) ?_
      refine AOps_q 7 _ rfl rfl rfl (QOp_lss _ _ _ _ _ _ _ rfl rfl rfl) ?_
      refine AOps_nil ?_
      refine ACode_cond _ rfl (fun hb2 => ?_) (fun hb2 => ?_)
      · have h := iteT hb2 h
        refine ACode_skip ?_
        refine ACode_seq ?_
        refine ACode_block ?_
        refine ACode_seq (ACode_quiet mixed (by kernel_rfl) ?_)
        refine AQ_q 10 _ rfl rfl rfl (QOp_move _ _ rfl rfl) ?_
        obtain ⟨hc3, h⟩ := guardO h
        refine AQ_q 11 _ rfl rfl rfl (QOp_indexAddrA_pv _ _ _ _ _ _ _ _ _ rfl Try.underlying25 Try.sizeOf5 hc3.1 hc3.2 rfl rfl) ?_
        refine AQ_q 12 _ rfl rfl rfl (QOp_load_pv _ _ _ _ _ rfl Try.isAgg5 rfl (by rw [Nat.zero_add]; exact byD_get _ _ (by omega))) ?_
        refine AQ_q 13 _ rfl rfl rfl (QOp_move _ _ rfl rfl) ?_
        obtain ⟨hc4, h⟩ := guardO h
        refine AQ_q 14 _ rfl rfl rfl (QOp_indexAddrA_pv _ _ _ _ _ _ _ _ _ rfl Try.underlying25 Try.sizeOf5 hc4.1 hc4.2 rfl rfl) ?_
        refine AQ_q 15 _ rfl rfl rfl (QOp_load_pv _ _ _ _ _ rfl Try.isAgg5 rfl (by rw [Nat.zero_add]; exact byD_get _ _ (by omega))) ?_
        refine AQ_q 16 _ rfl rfl rfl (QOp_neq _ _ _ _ _ _ _ rfl rfl rfl) ?_
        refine AQ_nil ?_
        refine ACode_cond _ rfl (fun hb5 => ?_) (fun hb5 => ?_)
        · have h := iteT hb5 h
          refine ACode_seq (ACode_region ?_)
          refine AOps_q 4 _ rfl rfl rfl (QOp_assign _ _ rfl rfl) ?_
          refine AOps_nil ?_
          refine ACode_ret ?_
          cases h
          have h := hks6
          cases h
          exact ⟨_, _, fun r a w h => ⟨r, h⟩, _, _, [], _, (.cons (ResV_tmp _ _ rfl) .nil), rfl, rfl, rfl, rfl, rfl⟩
        · have h := iteF hb5 h
          refine ACode_skip ?_
          refine (ACode_region ?_)
          refine AOps_q 8 _ rfl rfl rfl (QOp_move _ _ rfl rfl) ?_
          refine AOps_q 9 _ rfl rfl rfl (QOp_add _ _ _ _ _ _ _ rfl rfl rfl) ?_
          refine AOps_q 5 _ rfl rfl rfl (QOp_assign _ _ rfl rfl) ?_
          refine AOps_nil ?_
          exact ⟨k0, _, _, Nat.lt_succ_self _, Weak_keep 0 hm [2, 3, 5] [] _ _ rfl rfl rfl, _, rfl, rfl, h⟩
      · have h := iteF hb2 h
        refine ACode_exit ?_
        cases h
        exact ⟨_, rfl, Weak_keep 0 hm [] [] _ _ rfl rfl rfl⟩
  rintro E' H' ⟨s6, rfl, hw⟩
  refine ACode_weak hw ?_
  have h := hks6
  refine ACode_seq (ACode_region ?_)
  refine AOps_q 4 _ rfl rfl rfl (QOp_assign _ _ rfl rfl) ?_
  refine AOps_nil ?_
  refine ACode_ret ?_
  cases h
  exact ⟨_, _, fun r a w h => ⟨r, h⟩, _, _, [], _, (.cons (ResV_tmp _ _ rfl) .nil), rfl, rfl, rfl, rfl, rfl⟩

-- loop.example/g01362/laws.eqColouring
def laws_eqColouring (k : Nat) (p0 : Col) (p1 : Col) : Option (Bool) :=
  (if !decide (p0.p = p1.p) then some false else (if !decide (p0.k = p1.k) then some false else (laws_eqByteA136 k p0.e p1.e).bind fun r3 => (if !r3 then some false else some true)))
set_option maxRecDepth 100000 in
theorem laws_eqColouring_ac (k : Nat) (p0 : Col) (p1 : Col) (r : Bool) (h : laws_eqColouring k p0 p1 = some r) : AC Try.prog 18 [.d (.agg (colD p0)), .d (.agg (colD p1))] [] (fun res H' => res = [bV r] ∧ H' = []) := by
  refine AC_of_body true Try.func18 rfl Try.ntmps18 (rvs := [.tmp 4]) rfl rfl (fun G hG => ?_)
  have hm : G.H.length = 0 := by rw [hG]; rfl
  unfold laws_eqColouring at h
  refine ACode_seq (ACode_region ?_)
  refine AOps_boxI 2 _ _ (.agg (colD p0)) (colD p0) rfl (colD_one _) rfl rfl rfl rfl rfl ?_
  refine AOps_boxI 3 _ _ (.agg (colD p1)) (colD p1) rfl (colD_one _) rfl rfl rfl rfl rfl ?_
  refine AOps_q 4 _ rfl rfl rfl (QOp_assign _ _ rfl rfl) ?_
  refine AOps_nil ?_
  refine ACode_seq ?_
  refine ACode_seq (ACode_region ?_)
  refine AOps_q 5 _ rfl rfl rfl (QOp_fieldAddr_pv _ _ _ _ _ 0 _ _ rfl Try.underlying31 rfl _ Try.sizeOf2 rfl rfl) ?_
  refine AOps_q 6 _ rfl rfl rfl (QOp_load_pv _ _ _ _ _ rfl Try.isAgg2 rfl rfl) ?_
  refine AOps_q 7 _ rfl rfl rfl (QOp_fieldAddr_pv _ _ _ _ _ 0 _ _ rfl Try.underlying31 rfl _ Try.sizeOf2 rfl rfl) ?_
  refine AOps_q 8 _ rfl rfl rfl (QOp_load_pv _ _ _ _ _ rfl Try.isAgg2 rfl rfl) ?_
  refine AOps_q 9 _ rfl rfl rfl (QOp_neq _ _ _ _ _ _ _ rfl rfl rfl) ?_
  refine AOps_nil ?_
  refine ACode_cond _ rfl (fun hb1 => ?_) (fun hb1 => ?_)
  · have h := iteT hb1 h
    refine ACode_seq (ACode_region ?_)
    refine AOps_q 4 _ rfl rfl rfl (QOp_assign _ _ rfl rfl) ?_
    refine AOps_nil ?_
    refine ACode_ret ?_
    cases h
    exact ⟨_, _, fun r a w h => ⟨r, h⟩, _, _, [], _, (.cons (ResV_tmp _ _ rfl) .nil), rfl, rfl, rfl, rfl, rfl⟩
  · have h := iteF hb1 h
    refine ACode_skip ?_
    refine ACode_seq ?_
    refine ACode_seq (ACode_region ?_)
    refine AOps_q 10 _ rfl rfl rfl (QOp_fieldAddr_pv _ _ _ _ _ 1 _ _ rfl Try.underlying31 rfl _ Try.sizeOf2 rfl rfl) ?_
    refine AOps_q 11 _ rfl rfl rfl (QOp_load_pv _ _ _ _ _ rfl Try.isAgg2 rfl rfl) ?_
    refine AOps_q 12 _ rfl rfl rfl (QOp_fieldAddr_pv _ _ _ _ _ 1 _ _ rfl Try.underlying31 rfl _ Try.sizeOf2 rfl rfl) ?_
    refine AOps_q 13 _ rfl rfl rfl (QOp_load_pv _ _ _ _ _ rfl Try.isAgg2 rfl rfl) ?_
    refine AOps_q 14 _ rfl rfl rfl (QOp_neq _ _ _ _ _ _ _ rfl rfl rfl) ?_
    refine AOps_nil ?_
    refine ACode_cond _ rfl (fun hb2 => ?_) (fun hb2 => ?_)
    · have h := iteT hb2 h
      refine ACode_seq (ACode_region ?_)
      refine AOps_q 4 _ rfl rfl rfl (QOp_assign _ _ rfl rfl) ?_
      refine AOps_nil ?_
      refine ACode_ret ?_
      cases h
      exact ⟨_, _, fun r a w h => ⟨r, h⟩, _, _, [], _, (.cons (ResV_tmp _ _ rfl) .nil), rfl, rfl, rfl, rfl, rfl⟩
    · have h := iteF hb2 h
      refine ACode_skip ?_
      refine ACode_seq ?_
      refine ACode_seq (ACode_region ?_)
      refine AOps_q 15 _ rfl rfl rfl (QOp_fieldAddr_pv _ _ _ _ _ 2 _ _ rfl Try.underlying31 rfl _ Try.sizeOf25 rfl rfl) ?_
      refine AOps_q 16 _ rfl rfl rfl (QOp_loadN_pv _ _ _ _ _ _ rfl Try.isAgg25 Try.sizeOf25 rfl (colD_edges _) (byD_length _)) ?_
      refine AOps_q 17 _ rfl rfl rfl (QOp_fieldAddr_pv _ _ _ _ _ 2 _ _ rfl Try.underlying31 rfl _ Try.sizeOf25 rfl rfl) ?_
      refine AOps_q 18 _ rfl rfl rfl (QOp_loadN_pv _ _ _ _ _ _ rfl Try.isAgg25 Try.sizeOf25 rfl (colD_edges _) (byD_length _)) ?_
      obtain ⟨r3, hr3, h⟩ := bindO h
      refine AOps_call [] 19 _ _ _ _ _ _ _ _ _ _ rfl rfl rfl rfl rfl rfl rfl Try.call35 rfl (nodupB_sound _ rfl) rfl rfl rfl (laws_eqByteA136_ac k p0.e p1.e _ hr3) ?_
      rintro _ _ ⟨rfl, rfl⟩
      refine ⟨(fun _ h => nomatch h), (allc (trivial) (fun _ h => nomatch h)), AOps_as 19 (v' := bV r3) (H' := []) rfl rfl ?_⟩
      refine AOps_q 20 _ rfl rfl rfl (QOp_not _ _ _ rfl rfl) ?_
      refine AOps_nil ?_
      refine ACode_cond _ rfl (fun hb4 => ?_) (fun hb4 => ?_)
      · have h := iteT hb4 h
        refine ACode_seq (ACode_region ?_)
        refine AOps_q 4 _ rfl rfl rfl (QOp_assign _ _ rfl rfl) ?_
        refine AOps_nil ?_
        refine ACode_ret ?_
        cases h
        exact ⟨_, _, fun r a w h => ⟨r, h⟩, _, _, [], _, (.cons (ResV_tmp _ _ rfl) .nil), rfl, rfl, rfl, rfl, rfl⟩
      · have h := iteF hb4 h
        refine ACode_skip ?_
        refine ACode_seq (ACode_region ?_)
        refine AOps_q 4 _ rfl rfl rfl (QOp_assign _ _ rfl rfl) ?_
        refine AOps_nil ?_
        refine ACode_ret ?_
        cases h
        exact ⟨_, _, fun r a w h => ⟨r, h⟩, _, _, [], _, (.cons (ResV_tmp _ _ rfl) .nil), rfl, rfl, rfl, rfl, rfl⟩

-- loop.example/g01362/laws.eqInt64S
def laws_eqInt64S_l0 (p0 : List Int) (p1 : List Int) : Nat → Int → Option (Sum (Unit) (Bool))
  | 0, _ => none
  | k0 + 1, x2 => (if decide (x2 < (p0.length : Int)) then (if 0 ≤ x2 ∧ x2 < (p0.length : Int) then (if 0 ≤ x2 ∧ x2 < (p1.length : Int) then (if !decide ((p0.getD x2.toNat 0) = (p1.getD x2.toNat 0)) then some (.inr false) else laws_eqInt64S_l0 p0 p1 k0 (w64 (x2 + 1))) else none) else none) else some (.inl ()))
def laws_eqInt64S (k : Nat) (p0 : List Int) (p1 : List Int) : Option (Bool) :=
  (if !decide ((p0.length : Int) = (p1.length : Int)) then some false else (laws_eqInt64S_l0 p0 p1 k 0 : Option (Sum (Unit) (Bool))).bind fun os7 => (match os7 with | .inl s7 => some true | .inr rr => some rr))
set_option maxRecDepth 100000 in
theorem laws_eqInt64S_ac (k : Nat) (p0 : List Int) (p1 : List Int) (r : Bool) (h : laws_eqInt64S k p0 p1 = some r) : AC Try.prog 19 [.d (.sl none (intsD p0)), .d (.sl none (intsD p1))] [] (fun res H' => res = [bV r] ∧ H' = []) := by
  refine AC_of_body true Try.func19 rfl Try.ntmps19 (rvs := [.tmp 4]) rfl rfl (fun G hG => ?_)
  have hm : G.H.length = 0 := by rw [hG]; rfl
  unfold laws_eqInt64S at h
  refine ACode_seq (ACode_region ?_)
  refine AOps_q 4 _ rfl rfl rfl (QOp_assign _ _ rfl rfl) ?_
  refine AOps_nil ?_
  refine ACode_seq ?_
  refine ACode_seq (ACode_region ?_)
  refine AOps_q 6 _ rfl rfl rfl (QOp_move _ _ rfl rfl) ?_
  refine AOps_q 7 _ rfl rfl rfl (QOp_len_sl _ _ _ _ _ _ _ (intsD_length _) rfl rfl rfl rfl Try.underlying36 rfl) ?_
  refine AOps_q 8 _ rfl rfl rfl (QOp_move _ _ rfl rfl) ?_
  refine AOps_q 9 _ rfl rfl rfl (QOp_len_sl _ _ _ _ _ _ _ (intsD_length _) rfl rfl rfl rfl Try.underlying36 rfl) ?_
  refine AOps_q 10 _ rfl rfl rfl (QOp_neq _ _ _ _ _ _ _ rfl rfl rfl) ?_
  refine AOps_nil ?_
  refine ACode_cond _ rfl (fun hb1 => ?_) (fun hb1 => ?_)
  · have h := iteT hb1 h
    refine ACode_seq (ACode_region ?_)
    refine AOps_q 4 _ rfl rfl rfl (QOp_assign _ _ rfl rfl) ?_
    refine AOps_nil ?_
    refine ACode_ret ?_
    cases h
    exact ⟨_, _, fun r a w h => ⟨r, h⟩, _, _, [], _, (.cons (ResV_tmp _ _ rfl) .nil), rfl, rfl, rfl, rfl, rfl⟩
  · have h := iteF hb1 h
    refine ACode_skip ?_
    obtain ⟨os7, hss7, hks7⟩ := bindO h
    clear h
    refine ACode_seqJ (fun E' H' => ∃ s7 : Unit, os7 = .inl s7 ∧ Weak 26 G E' H' [] []) ?_ ?_
    · have h := hss7
      clear hss7
      refine ACode_seq (ACode_region ?_)
      refine AOps_q 5 _ rfl rfl rfl (QOp_assign _ _ rfl rfl) ?_
      refine AOps_nil ?_
      refine ACode_block ?_
      refine ACode_loopW (fun k0 E H => ∃ (x2 : Int), E = [(0, .d (.sl none (intsD p0))), (1, .d (.sl none (intsD p1))), (5, iV x2)] ∧ H = [] ∧ laws_eqInt64S_l0 p0 p1 k0 x2 = some os7) k _ _ (Weak_keep 0 hm [0, 1, 5] [] _ _ rfl rfl rfl) ⟨_, rfl, rfl, h⟩ ?_
      clear h
      rintro k0 E H ⟨x2, rfl, rfl, h⟩
      cases k0 with
      | zero => cases (show (none : Option (Sum (Unit) (Bool))) = some _ from h)
      | succ k0 =>
        rw [laws_eqInt64S_l0] at h
        refine ACode_seq ?_
        refine ACode_seq (ACode_region ?_)
        refine AOps_q 11 _ rfl rfl rfl (QOp_move _ _ rfl rfl) ?_
        refine AOps_q 12 _ rfl rfl rfl (QOp_move _ _ rfl rfl) ?_
        refine AOps_q 13 _ rfl rfl rfl (QOp_len_sl _ _ _ _ _ _ _ (intsD_length _) rfl rfl rfl rfl Try.underlying36 rfl) ?_
        refine AOps_q 14 _ rfl rfl rfl (QOp_lss _ _ _ _ _ _ _ rfl rfl rfl) ?_
        refine AOps_nil ?_
        refine ACode_cond _ rfl (fun hb3 => ?_) (fun hb3 => ?_)
        · have h := iteT hb3 h
          refine ACode_skip ?_
          refine ACode_seq ?_
          refine ACode_block ?_
          refine ACode_seq (ACode_quiet mixed (by kernel_rfl) ?_)
          refine AQ_q 17 _ rfl rfl rfl (QOp_move _ _ rfl rfl) ?_
          refine AQ_q 18 _ rfl rfl rfl (QOp_move _ _ rfl rfl) ?_
          obtain ⟨hc4, h⟩ := guardO h
          refine AQ_q 19 _ rfl rfl rfl (QOp_indexAddr_sl _ _ _ _ _ _ _ _ rfl Try.underlying36 Try.sizeOf2 hc4.1 (by rw [intsD_length]; exact hc4.2) rfl rfl) ?_
          refine AQ_q 20 _ rfl rfl rfl (QOp_load_pv _ _ _ _ _ rfl Try.isAgg2 rfl (intsD_get _ _ 0 (by omega))) ?_
          refine AQ_q 21 _ rfl rfl rfl (QOp_move _ _ rfl rfl) ?_
          refine AQ_q 22 _ rfl rfl rfl (QOp_move _ _ rfl rfl) ?_
          obtain ⟨hc5, h⟩ := guardO h
          refine AQ_q 23 _ rfl rfl rfl (QOp_indexAddr_sl _ _ _ _ _ _ _ _ rfl Try.underlying36 Try.sizeOf2 hc5.1 (by rw [intsD_length]; exact hc5.2) rfl rfl) ?_
          refine AQ_q 24 _ rfl rfl rfl (QOp_load_pv _ _ _ _ _ rfl Try.isAgg2 rfl (intsD_get _ _ 0 (by omega))) ?_
          refine AQ_q 25 _ rfl rfl rfl (QOp_neq _ _ _ _ _ _ _ rfl rfl rfl) ?_
          refine AQ_nil ?_
          refine ACode_cond _ rfl (fun hb6 => ?_) (fun hb6 => ?_)
          · have h := iteT hb6 h
            refine ACode_seq (ACode_region ?_)
            refine AOps_q 4 _ rfl rfl rfl (QOp_assign _ _ rfl rfl) ?_
            refine AOps_nil ?_
            refine ACode_ret ?_
            cases h
            have h := hks7
            cases h
            exact ⟨_, _, fun r a w h => ⟨r, h⟩, _, _, [], _, (.cons (ResV_tmp _ _ rfl) .nil), rfl, rfl, rfl, rfl, rfl⟩
          · have h := iteF hb6 h
            refine ACode_skip ?_
            refine (ACode_region ?_)
            refine AOps_q 15 _ rfl rfl rfl (QOp_move _ _ rfl rfl) ?_
            refine AOps_q 16 _ rfl rfl rfl (QOp_add _ _ _ _ _ _ _ rfl rfl rfl) ?_
            refine AOps_q 5 _ rfl rfl rfl (QOp_assign _ _ rfl rfl) ?_
            refine AOps_nil ?_
            exact ⟨k0, _, _, Nat.lt_succ_self _, Weak_keep 0 hm [0, 1, 5] [] _ _ rfl rfl rfl, _, rfl, rfl, h⟩
        · have h := iteF hb3 h
          refine ACode_exit ?_
          cases h
          exact ⟨_, rfl, Weak_keep 0 hm [] [] _ _ rfl rfl rfl⟩
    rintro E' H' ⟨s7, rfl, hw⟩
    refine ACode_weak hw ?_
    have h := hks7
    refine ACode_seq (ACode_region ?_)
    refine AOps_q 4 _ rfl rfl rfl (QOp_assign _ _ rfl rfl) ?_
    refine AOps_nil ?_
    refine ACode_ret ?_
    cases h
    exact ⟨_, _, fun r a w h => ⟨r, h⟩, _, _, [], _, (.cons (ResV_tmp _ _ rfl) .nil), rfl, rfl, rfl, rfl, rfl⟩

-- loop.example/g01362/laws.FnExactSequenceColouring
def laws_FnExactSequenceColouring (k : Nat) (p0 : List Int) : Option (Bool) :=
  (if decide (1048576 < (p0.length : Int)) then some true else (laws_toInt64S k p0).bind fun r2 => (spec_SequenceColouring k r2).bind fun r3 => (laws_toInt64S k p0).bind fun r4 => (impl_SequenceColouring k r4).bind fun r5 => (((laws_eqColouring k r5.1 r3.1).bind fun r6 => (if !r6 then some true else some (!decide (r5.2 = r3.2))) : Option (Bool)).bind fun s8 => (if s8 then some (.inr false) else some (.inl ())) : Option (Sum (Unit) (Bool))).bind fun os10 => (match os10 with | .inl s10 => (laws_toInt64S k p0).bind fun r11 => (laws_eqInt64S k r4 r11).bind fun r12 => (if !r12 then some false else some true) | .inr rr => some rr))
set_option maxRecDepth 100000 in
theorem laws_FnExactSequenceColouring_ac (k : Nat) (p0 : List Int) (r : Bool) (h : laws_FnExactSequenceColouring k p0 = some r) : AC Try.prog 6 [.d (.sl none (intsD p0))] [] (fun res H' => res = [bV r] ∧ H' = []) := by
  refine AC_of_body true Try.func6 rfl Try.ntmps6 (rvs := [.tmp 2]) rfl rfl (fun G hG => ?_)
  have hm : G.H.length = 0 := by rw [hG]; rfl
  unfold laws_FnExactSequenceColouring at h
  refine ACode_seq (ACode_region ?_)
  refine AOps_q 2 _ rfl rfl rfl (QOp_assign _ _ rfl rfl) ?_
  refine AOps_nil ?_
  refine ACode_seq ?_
  refine ACode_seq (ACode_region ?_)
  refine AOps_q 8 _ rfl rfl rfl (QOp_move _ _ rfl rfl) ?_
  refine AOps_q 9 _ rfl rfl rfl (QOp_len_sl _ _ _ _ _ _ _ (intsD_length _) rfl rfl rfl rfl Try.underlying36 rfl) ?_
  refine AOps_q 10 _ rfl rfl rfl (QOp_gtr _ _ _ _ _ _ _ rfl rfl rfl) ?_
  refine AOps_nil ?_
  refine ACode_cond _ rfl (fun hb1 => ?_) (fun hb1 => ?_)
  · have h := iteT hb1 h
    refine ACode_seq (ACode_region ?_)
    refine AOps_q 2 _ rfl rfl rfl (QOp_assign _ _ rfl rfl) ?_
    refine AOps_nil ?_
    refine ACode_ret ?_
    cases h
    exact ⟨_, _, fun r a w h => ⟨r, h⟩, _, _, [], _, (.cons (ResV_tmp _ _ rfl) .nil), rfl, rfl, rfl, rfl, rfl⟩
  · have h := iteF hb1 h
    refine ACode_skip ?_
    refine ACode_seq (ACode_region ?_)
    refine AOps_q 12 _ rfl rfl rfl (QOp_move _ _ rfl rfl) ?_
    obtain ⟨r2, hr2, h⟩ := bindO h
    refine AOps_call [] 13 _ _ _ _ _ _ _ _ _ _ rfl rfl rfl rfl rfl rfl rfl Try.call16 rfl (nodupB_sound _ rfl) rfl rfl rfl (laws_toInt64S_ac k p0 _ hr2) ?_
    rintro _ _ ⟨rfl, rfl⟩
    refine ⟨(allc (fun _ _ => trivial) (fun _ h => nomatch h)), (allc (trivial) (fun _ h => nomatch h)), AOps_as 13 (v' := .vec 0 0) (H' := [.vec 0 (intsD r2)]) rfl rfl ?_⟩
    obtain ⟨r3, hr3, h⟩ := bindO h
    refine AOps_callL [] 14 _ _ _ _ _ _ _ _ _ _ rfl rfl rfl rfl rfl rfl rfl Try.call15 rfl (nodupB_sound _ rfl) rfl rfl rfl (spec_SequenceColouring_ac k r2 _ hr3) ?_
    rintro _ _ ⟨rfl, rfl⟩
    refine ⟨(fun _ h => nomatch h), (allc (flat_agg (colD_flat _)) (allc (flat_s _) (fun _ h => nomatch h))), AOps_as 14 (v' := .tup [.d (.agg (colD r3.1)), iV r3.2]) (H' := [.vec 0 (intsD r2)]) rfl rfl ?_⟩
    refine AOps_q 11 _ rfl rfl rfl (QOp_move _ _ rfl rfl) ?_
    refine AOps_q 15 _ rfl rfl rfl (QOp_extract _ _ _ _ rfl rfl rfl) ?_
    refine AOps_q 16 _ rfl rfl rfl (QOp_extract _ _ _ _ rfl rfl rfl) ?_
    refine AOps_alloc 3 _ _ (colD Col.zero) (zero_of Try.typeInfo31 rfl) (by rfl) rfl rfl rfl rfl ?_
    refine AOps_store _ _ _ _ _ _ (colD _) _ _ rfl rfl rfl rfl rfl rfl rfl (colD_one _) (by rw [colD_length]; exact Try.sizeOf31) (by rw [colD_length, colD_length]; decide) (colD_whole _ _) ?_
    refine AOps_q 4 _ rfl rfl rfl (QOp_assign _ _ rfl rfl) ?_
    refine AOps_nil ?_
    refine ACode_seq (ACode_region ?_)
    refine AOps_q 17 _ rfl rfl rfl (QOp_move _ _ rfl rfl) ?_
    obtain ⟨r4, hr4, h⟩ := bindO h
    refine AOps_call [] 18 _ _ _ _ _ _ _ _ _ _ rfl rfl rfl rfl rfl rfl rfl Try.call16 rfl (nodupB_sound _ rfl) rfl rfl rfl (laws_toInt64S_ac k p0 _ hr4) ?_
    rintro _ _ ⟨rfl, rfl⟩
    refine ⟨(allc (fun _ _ => trivial) (fun _ h => nomatch h)), (allc (trivial) (fun _ h => nomatch h)), AOps_as 18 (v' := .vec 2 0) (H' := [.vec 0 (intsD r2), .box (colD r3.1), .vec 0 (intsD r4)]) rfl rfl ?_⟩
    refine AOps_q 5 _ rfl rfl rfl (QOp_assign _ _ rfl rfl) ?_
    refine AOps_nil ?_
    refine ACode_seq (ACode_region ?_)
    refine AOps_q 20 _ rfl rfl rfl (QOp_move _ _ rfl rfl) ?_
    obtain ⟨r5, hr5, h⟩ := bindO h
    refine AOps_callL [] 21 _ _ _ _ _ _ _ _ _ _ rfl rfl rfl rfl rfl rfl rfl Try.call17 rfl (nodupB_sound _ rfl) rfl rfl rfl (impl_SequenceColouring_ac k r4 _ hr5) ?_
    rintro _ _ ⟨rfl, rfl⟩
    refine ⟨(fun _ h => nomatch h), (allc (flat_agg (colD_flat _)) (allc (flat_s _) (fun _ h => nomatch h))), AOps_as 21 (v' := .tup [.d (.agg (colD r5.1)), iV r5.2]) (H' := [.vec 0 (intsD r2), .box (colD r3.1), .vec 0 (intsD r4)]) rfl rfl ?_⟩
    refine AOps_q 19 _ rfl rfl rfl (QOp_move _ _ rfl rfl) ?_
    refine AOps_q 22 _ rfl rfl rfl (QOp_extract _ _ _ _ rfl rfl rfl) ?_
    refine AOps_q 23 _ rfl rfl rfl (QOp_extract _ _ _ _ rfl rfl rfl) ?_
    refine AOps_alloc 6 _ _ (colD Col.zero) (zero_of Try.typeInfo31 rfl) (by rfl) rfl rfl rfl rfl ?_
    refine AOps_store _ _ _ _ _ _ (colD _) _ _ rfl rfl rfl rfl rfl rfl rfl (colD_one _) (by rw [colD_length]; exact Try.sizeOf31) (by rw [colD_length, colD_length]; decide) (colD_whole _ _) ?_
    refine AOps_q 7 _ rfl rfl rfl (QOp_assign _ _ rfl rfl) ?_
    refine AOps_nil ?_
    obtain ⟨os10, hss10, hks10⟩ := bindO h
    clear h
    refine ACode_seqJ (fun E' H' => ∃ s10 : Unit, os10 = .inl s10 ∧ Weak 38 G E' H' [(0, .d (.sl none (intsD p0))), (5, .vec 0 0)] [.vec 0 (intsD r4)]) ?_ ?_
    · have h := hss10
      clear hss10
      obtain ⟨s8, hss8, hks8⟩ := bindO h
      clear h
      refine ACode_seqJ (fun E' H' => Weak 38 G E' H' [(0, .d (.sl none (intsD p0))), (5, .vec 0 0), (32, bV s8)] [.vec 0 (intsD r4)]) ?_ ?_
      · have h := hss8
        clear hss8
        refine (ACode_region ?_)
        refine AOps_q 24 _ rfl rfl rfl (QOp_loadN_ptr _ _ _ _ _ _ _ rfl Try.isAgg31 Try.sizeOf31 rfl rfl (colD_all _) (colD_length _)) ?_
        refine AOps_q 25 _ rfl rfl rfl (QOp_loadN_ptr _ _ _ _ _ _ _ rfl Try.isAgg31 Try.sizeOf31 rfl rfl (colD_all _) (colD_length _)) ?_
        obtain ⟨r6, hr6, h⟩ := bindO h
        refine AOps_call [] 26 _ _ _ _ _ _ _ _ _ _ rfl rfl rfl rfl rfl rfl rfl Try.call18 rfl (nodupB_sound _ rfl) rfl rfl rfl (laws_eqColouring_ac k r5.1 r3.1 _ hr6) ?_
        rintro _ _ ⟨rfl, rfl⟩
        refine ⟨(fun _ h => nomatch h), (allc (trivial) (fun _ h => nomatch h)), AOps_as 26 (v' := bV r6) (H' := [.vec 0 (intsD r2), .box (colD r3.1), .vec 0 (intsD r4), .box (colD r5.1)]) rfl rfl ?_⟩
        refine AOps_q 27 _ rfl rfl rfl (QOp_not _ _ _ rfl rfl) ?_
        refine AOps_q 28 _ rfl rfl rfl (QOp_move _ _ rfl rfl) ?_
        refine AOps_case 28 _ rfl (fun hb7 => ?_) (fun hb7 => ?_)
        · have h := iteT hb7 h
          refine AOps_skip 29 rfl rfl rfl ?_
          refine AOps_skip 30 rfl rfl rfl ?_
          refine AOps_skip 31 rfl rfl rfl ?_
          refine AOps_q 32 _ rfl rfl rfl (QOp_pick_t _ _ _ _ rfl rfl rfl) ?_
          refine AOps_nil ?_
          cases h
          exact Weak_keep 0 hm [0, 5, 32] [2] _ _ rfl rfl rfl
        · have h := iteF hb7 h
          refine AOps_q 29 _ rfl rfl rfl (QOp_move _ _ rfl rfl) ?_
          refine AOps_q 30 _ rfl rfl rfl (QOp_move _ _ rfl rfl) ?_
          refine AOps_q 31 _ rfl rfl rfl (QOp_neq _ _ _ _ _ _ _ rfl rfl rfl) ?_
          refine AOps_q 32 _ rfl rfl rfl (QOp_pick_f _ _ _ _ rfl rfl rfl) ?_
          refine AOps_nil ?_
          cases h
          exact Weak_keep 0 hm [0, 5, 32] [2] _ _ rfl rfl rfl
      intro E' H' hw
      refine ACode_weak hw ?_
      have h := hks8
      refine ACode_cond _ rfl (fun hb9 => ?_) (fun hb9 => ?_)
      · have h := iteT hb9 h
        refine ACode_seq (ACode_region ?_)
        refine AOps_q 2 _ rfl rfl rfl (QOp_assign _ _ rfl rfl) ?_
        refine AOps_nil ?_
        refine ACode_ret ?_
        cases h
        have h := hks10
        cases h
        exact ⟨_, _, fun r a w h => ⟨r, h⟩, _, _, [], _, (.cons (ResV_tmp _ _ rfl) .nil), rfl, rfl, rfl, rfl, rfl⟩
      · have h := iteF hb9 h
        refine ACode_skip ?_
        cases h
        exact ⟨_, rfl, Weak_keep 0 hm [0, 5] [0] _ _ rfl rfl rfl⟩
    rintro E' H' ⟨s10, rfl, hw⟩
    refine ACode_weak hw ?_
    have h := hks10
    refine ACode_seq ?_
    refine ACode_seq (ACode_region ?_)
    refine AOps_q 33 _ rfl rfl rfl (QOp_move _ _ rfl rfl) ?_
    refine AOps_q 34 _ rfl rfl rfl (QOp_move _ _ rfl rfl) ?_
    obtain ⟨r11, hr11, h⟩ := bindO h
    refine AOps_call [] 35 _ _ _ _ _ _ _ _ _ _ rfl rfl rfl rfl rfl rfl rfl Try.call16 rfl (nodupB_sound _ rfl) rfl rfl rfl (laws_toInt64S_ac k p0 _ hr11) ?_
    rintro _ _ ⟨rfl, rfl⟩
    refine ⟨(allc (fun _ _ => trivial) (fun _ h => nomatch h)), (allc (trivial) (fun _ h => nomatch h)), AOps_as 35 (v' := .vec 1 0) (H' := [.vec 0 (intsD r4), .vec 0 (intsD r11)]) rfl rfl ?_⟩
    obtain ⟨r12, hr12, h⟩ := bindO h
    refine AOps_callL [] 36 _ _ _ _ _ _ _ _ _ _ rfl rfl rfl rfl rfl rfl rfl Try.call19 rfl (nodupB_sound _ rfl) rfl rfl rfl (laws_eqInt64S_ac k r4 r11 _ hr12) ?_
    rintro _ _ ⟨rfl, rfl⟩
    refine ⟨(fun _ h => nomatch h), (allc (flat_s _) (fun _ h => nomatch h)), AOps_as 36 (v' := bV r12) (H' := [.vec 0 (intsD r4), .vec 0 (intsD r11)]) rfl rfl ?_⟩
    refine AOps_q 37 _ rfl rfl rfl (QOp_not _ _ _ rfl rfl) ?_
    refine AOps_nil ?_
    refine ACode_cond _ rfl (fun hb13 => ?_) (fun hb13 => ?_)
    · have h := iteT hb13 h
      refine ACode_seq (ACode_region ?_)
      refine AOps_q 2 _ rfl rfl rfl (QOp_assign _ _ rfl rfl) ?_
      refine AOps_nil ?_
      refine ACode_ret ?_
      cases h
      exact ⟨_, _, fun r a w h => ⟨r, h⟩, _, _, [], _, (.cons (ResV_tmp _ _ rfl) .nil), rfl, rfl, rfl, rfl, rfl⟩
    · have h := iteF hb13 h
      refine ACode_skip ?_
      refine ACode_seq (ACode_region ?_)
      refine AOps_q 2 _ rfl rfl rfl (QOp_assign _ _ rfl rfl) ?_
      refine AOps_nil ?_
      refine ACode_ret ?_
      cases h
      exact ⟨_, _, fun r a w h => ⟨r, h⟩, _, _, [], _, (.cons (ResV_tmp _ _ rfl) .nil), rfl, rfl, rfl, rfl, rfl⟩

-- loop.example/g01362/spec.l01All
def spec_l01All_l0 (p0 : List Int) (p1 : Int) : Nat → Int → Option (Sum (Unit) (Bool))
  | 0, _ => none
  | k0 + 1, x1 => (if decide (x1 < (p0.length : Int)) then (if 0 ≤ x1 ∧ x1 < (p0.length : Int) then (if !(spec_l01In (p0.getD x1.toNat 0) 0 (w64 (p1 - 1))) then some (.inr false) else spec_l01All_l0 p0 p1 k0 (w64 (x1 + 1))) else none) else some (.inl ()))
def spec_l01All (k : Nat) (p0 : List Int) (p1 : Int) : Option (Bool) :=
  (spec_l01All_l0 p0 p1 k 0 : Option (Sum (Unit) (Bool))).bind fun os6 => (match os6 with | .inl s6 => some true | .inr rr => some rr)
set_option maxRecDepth 100000 in
theorem spec_l01All_ac (k : Nat) (p0 : List Int) (p1 : Int) (r : Bool) (h : spec_l01All k p0 p1 = some r) : AC Try.prog 44 [.d (.sl none (intsD p0)), iV p1] [] (fun res H' => res = [bV r] ∧ H' = []) := by
  refine AC_of_body true Try.func44 rfl Try.ntmps44 (rvs := [.tmp 4]) rfl rfl (fun G hG => ?_)
  have hm : G.H.length = 0 := by rw [hG]; rfl
  unfold spec_l01All at h
  refine ACode_seq (ACode_region ?_)
  refine AOps_q 4 _ rfl rfl rfl (QOp_assign _ _ rfl rfl) ?_
  refine AOps_nil ?_
  obtain ⟨os6, hss6, hks6⟩ := bindO h
  clear h
  refine ACode_seqJ (fun E' H' => ∃ s6 : Unit, os6 = .inl s6 ∧ Weak 20 G E' H' [] []) ?_ ?_
  · have h := hss6
    clear hss6
    refine ACode_seq (ACode_region ?_)
    refine AOps_q 5 _ rfl rfl rfl (QOp_assign _ _ rfl rfl) ?_
    refine AOps_nil ?_
    refine ACode_block ?_
    refine ACode_loopW (fun k0 E H => ∃ (x1 : Int), E = [(0, .d (.sl none (intsD p0))), (1, iV p1), (5, iV x1)] ∧ H = [] ∧ spec_l01All_l0 p0 p1 k0 x1 = some os6) k _ _ (Weak_keep 0 hm [0, 1, 5] [] _ _ rfl rfl rfl) ⟨_, rfl, rfl, h⟩ ?_
    clear h
    rintro k0 E H ⟨x1, rfl, rfl, h⟩
    cases k0 with
    | zero => cases (show (none : Option (Sum (Unit) (Bool))) = some _ from h)
    | succ k0 =>
      rw [spec_l01All_l0] at h
      refine ACode_seq ?_
      refine ACode_seq (ACode_region ?_)
      refine AOps_q 6 _ rfl rfl rfl (QOp_move _ _ rfl rfl) ?_
      refine AOps_q 7 _ rfl rfl rfl (QOp_move _ _ rfl rfl) ?_
      refine AOps_q 8 _ rfl rfl rfl (QOp_len_sl _ _ _ _ _ _ _ (intsD_length _) rfl rfl rfl rfl Try.underlying36 rfl) ?_
      refine AOps_q 9 _ rfl rfl rfl (QOp_lss _ _ _ _ _ _ _ rfl rfl rfl) ?_
      refine AOps_nil ?_
      refine ACode_cond _ rfl (fun hb2 => ?_) (fun hb2 => ?_)
      · have h := iteT hb2 h
        refine ACode_skip ?_
        refine ACode_seq ?_
        refine ACode_block ?_
        refine ACode_seq (ACode_region ?_)
        refine AOps_q 12 _ rfl rfl rfl (QOp_move _ _ rfl rfl) ?_
        refine AOps_q 13 _ rfl rfl rfl (QOp_move _ _ rfl rfl) ?_
        obtain ⟨hc3, h⟩ := guardO h
        refine AOps_q 14 _ rfl rfl rfl (QOp_indexAddr_sl _ _ _ _ _ _ _ _ rfl Try.underlying36 Try.sizeOf2 hc3.1 (by rw [intsD_length]; exact hc3.2) rfl rfl) ?_
        refine AOps_q 15 _ rfl rfl rfl (QOp_load_pv _ _ _ _ _ rfl Try.isAgg2 rfl (intsD_get _ _ 0 (by omega))) ?_
        refine AOps_q 16 _ rfl rfl rfl (QOp_move _ _ rfl rfl) ?_
        refine AOps_q 17 _ rfl rfl rfl (QOp_sub _ _ _ _ _ _ _ rfl rfl rfl) ?_
        refine AOps_call [] 18 _ _ _ _ _ _ _ _ _ _ rfl rfl rfl rfl rfl rfl rfl Try.call23 rfl (nodupB_sound _ rfl) rfl rfl rfl (spec_l01In_ac (p0.getD x1.toNat 0) 0 (w64 (p1 - 1))) ?_
        rintro _ _ ⟨rfl, rfl⟩
        refine ⟨(fun _ h => nomatch h), (allc (trivial) (fun _ h => nomatch h)), AOps_as 18 (v' := bV (spec_l01In (p0.getD x1.toNat 0) 0 (w64 (p1 - 1)))) (H' := []) rfl rfl ?_⟩
        refine AOps_q 19 _ rfl rfl rfl (QOp_not _ _ _ rfl rfl) ?_
        refine AOps_nil ?_
        refine ACode_cond _ rfl (fun hb5 => ?_) (fun hb5 => ?_)
        · have h := iteT hb5 h
          refine ACode_seq (ACode_region ?_)
          refine AOps_q 4 _ rfl rfl rfl (QOp_assign _ _ rfl rfl) ?_
          refine AOps_nil ?_
          refine ACode_ret ?_
          cases h
          have h := hks6
          cases h
          exact ⟨_, _, fun r a w h => ⟨r, h⟩, _, _, [], _, (.cons (ResV_tmp _ _ rfl) .nil), rfl, rfl, rfl, rfl, rfl⟩
        · have h := iteF hb5 h
          refine ACode_skip ?_
          refine (ACode_region ?_)
          refine AOps_q 10 _ rfl rfl rfl (QOp_move _ _ rfl rfl) ?_
          refine AOps_q 11 _ rfl rfl rfl (QOp_add _ _ _ _ _ _ _ rfl rfl rfl) ?_
          refine AOps_q 5 _ rfl rfl rfl (QOp_assign _ _ rfl rfl) ?_
          refine AOps_nil ?_
          exact ⟨k0, _, _, Nat.lt_succ_self _, Weak_keep 0 hm [0, 1, 5] [] _ _ rfl rfl rfl, _, rfl, rfl, h⟩
      · have h := iteF hb2 h
        refine ACode_exit ?_
        cases h
        exact ⟨_, rfl, Weak_keep 0 hm [] [] _ _ rfl rfl rfl⟩
  rintro E' H' ⟨s6, rfl, hw⟩
  refine ACode_weak hw ?_
  have h := hks6
  refine ACode_seq (ACode_region ?_)
  refine AOps_q 4 _ rfl rfl rfl (QOp_assign _ _ rfl rfl) ?_
  refine AOps_nil ?_
  refine ACode_ret ?_
  cases h
  exact ⟨_, _, fun r a w h => ⟨r, h⟩, _, _, [], _, (.cons (ResV_tmp _ _ rfl) .nil), rfl, rfl, rfl, rfl, rfl⟩

-- loop.example/g01362/spec.l01Given
def spec_l01Given (k : Nat) (p0 : Col) (p1 : Int) (p2 : List Int) : Option (Int) :=
  ((spec_l01Is k p0).bind fun r1 => (if !r1 then some (.inr 1) else ((if !(spec_l01In p1 0 (w64 (p0.k - 1))) then some true else (spec_l01All k p2 p0.p).bind fun r5 => some (!r5)) : Option (Bool)).bind fun s6 => (if s6 then some (.inr 2) else some (.inl ()))) : Option (Sum (Unit) (Int))).bind fun os8 => (match os8 with | .inl s8 => some 0 | .inr rr => some rr)
set_option maxRecDepth 100000 in
theorem spec_l01Given_ac (k : Nat) (p0 : Col) (p1 : Int) (p2 : List Int) (r : Int) (h : spec_l01Given k p0 p1 p2 = some r) : AC Try.prog 36 [.d (.agg (colD p0)), iV p1, .d (.sl none (intsD p2))] [] (fun res H' => res = [iV r] ∧ H' = []) := by
  refine AC_of_body true Try.func36 rfl Try.ntmps36 (rvs := [.tmp 6]) rfl rfl (fun G hG => ?_)
  have hm : G.H.length = 0 := by rw [hG]; rfl
  unfold spec_l01Given at h
  refine ACode_seq (ACode_region ?_)
  refine AOps_boxI 3 _ _ (.agg (colD p0)) (colD p0) rfl (colD_one _) rfl rfl rfl rfl rfl ?_
  refine AOps_q 6 _ rfl rfl rfl (QOp_assign _ _ rfl rfl) ?_
  refine AOps_nil ?_
  obtain ⟨os8, hss8, hks8⟩ := bindO h
  clear h
  refine ACode_seqJ (fun E' H' => ∃ s8 : Unit, os8 = .inl s8 ∧ Weak 25 G E' H' [] []) ?_ ?_
  · have h := hss8
    clear hss8
    refine ACode_block ?_
    refine ACode_seq (ACode_region ?_)
    refine AOps_q 8 _ rfl rfl rfl (QOp_loadN_pv _ _ _ _ _ _ rfl Try.isAgg31 Try.sizeOf31 rfl (colD_all _) (colD_length _)) ?_
    obtain ⟨r1, hr1, h⟩ := bindO h
    refine AOps_call [] 9 _ _ _ _ _ _ _ _ _ _ rfl rfl rfl rfl rfl rfl rfl Try.call28 rfl (nodupB_sound _ rfl) rfl rfl rfl (spec_l01Is_ac k p0 _ hr1) ?_
    rintro _ _ ⟨rfl, rfl⟩
    refine ⟨(fun _ h => nomatch h), (allc (trivial) (fun _ h => nomatch h)), AOps_as 9 (v' := bV r1) (H' := []) rfl rfl ?_⟩
    refine AOps_q 10 _ rfl rfl rfl (QOp_not _ _ _ rfl rfl) ?_
    refine AOps_q 7 _ rfl rfl rfl (QOp_assign _ _ rfl rfl) ?_
    refine AOps_nil ?_
    refine ACode_cond _ rfl (fun hb2 => ?_) (fun hb2 => ?_)
    · have h := iteT hb2 h
      refine ACode_seq (ACode_region ?_)
      refine AOps_q 6 _ rfl rfl rfl (QOp_assign _ _ rfl rfl) ?_
      refine AOps_nil ?_
      refine ACode_ret ?_
      cases h
      have h := hks8
      cases h
      exact ⟨_, _, fun r a w h => ⟨r, h⟩, _, _, [], _, (.cons (ResV_tmp _ _ rfl) .nil), rfl, rfl, rfl, rfl, rfl⟩
    · have h := iteF hb2 h
      obtain ⟨s6, hss6, hks6⟩ := bindO h
      clear h
      refine ACode_seqJ (fun E' H' => Weak 25 G E' H' [(11, bV s6)] []) ?_ ?_
      · have h := hss6
        clear hss6
        refine (ACode_region ?_)
        refine AOps_q 12 _ rfl rfl rfl (QOp_move _ _ rfl rfl) ?_
        refine AOps_q 13 _ rfl rfl rfl (QOp_fieldAddr_pv _ _ _ _ _ 1 _ _ rfl Try.underlying31 rfl _ Try.sizeOf2 rfl rfl) ?_
        refine AOps_q 14 _ rfl rfl rfl (QOp_load_pv _ _ _ _ _ rfl Try.isAgg2 rfl rfl) ?_
        refine AOps_q 15 _ rfl rfl rfl (QOp_sub _ _ _ _ _ _ _ rfl rfl rfl) ?_
        refine AOps_call [] 16 _ _ _ _ _ _ _ _ _ _ rfl rfl rfl rfl rfl rfl rfl Try.call23 rfl (nodupB_sound _ rfl) rfl rfl rfl (spec_l01In_ac p1 0 (w64 (p0.k - 1))) ?_
        rintro _ _ ⟨rfl, rfl⟩
        refine ⟨(fun _ h => nomatch h), (allc (trivial) (fun _ h => nomatch h)), AOps_as 16 (v' := bV (spec_l01In p1 0 (w64 (p0.k - 1)))) (H' := []) rfl rfl ?_⟩
        refine AOps_q 17 _ rfl rfl rfl (QOp_not _ _ _ rfl rfl) ?_
        refine AOps_q 18 _ rfl rfl rfl (QOp_move _ _ rfl rfl) ?_
        refine AOps_case 18 _ rfl (fun hb4 => ?_) (fun hb4 => ?_)
        · have h := iteT hb4 h
          refine AOps_skip 19 rfl rfl rfl ?_
          refine AOps_skip 20 rfl rfl rfl ?_
          refine AOps_skip 21 rfl rfl rfl ?_
          refine AOps_skip 22 rfl rfl rfl ?_
          refine AOps_skip 23 rfl rfl rfl ?_
          refine AOps_q 24 _ rfl rfl rfl (QOp_pick_t _ _ _ _ rfl rfl rfl) ?_
          refine AOps_q 11 _ rfl rfl rfl (QOp_assign _ _ rfl rfl) ?_
          refine AOps_nil ?_
          cases h
          exact Weak_keep 0 hm [11] [] _ _ rfl rfl rfl
        · have h := iteF hb4 h
          refine AOps_q 19 _ rfl rfl rfl (QOp_move _ _ rfl rfl) ?_
          refine AOps_q 20 _ rfl rfl rfl (QOp_fieldAddr_pv _ _ _ _ _ 0 _ _ rfl Try.underlying31 rfl _ Try.sizeOf2 rfl rfl) ?_
          refine AOps_q 21 _ rfl rfl rfl (QOp_load_pv _ _ _ _ _ rfl Try.isAgg2 rfl rfl) ?_
          obtain ⟨r5, hr5, h⟩ := bindO h
          refine AOps_call [] 22 _ _ _ _ _ _ _ _ _ _ rfl rfl rfl rfl rfl rfl rfl Try.call44 rfl (nodupB_sound _ rfl) rfl rfl rfl (spec_l01All_ac k p2 p0.p _ hr5) ?_
          rintro _ _ ⟨rfl, rfl⟩
          refine ⟨(fun _ h => nomatch h), (allc (trivial) (fun _ h => nomatch h)), AOps_as 22 (v' := bV r5) (H' := []) rfl rfl ?_⟩
          refine AOps_q 23 _ rfl rfl rfl (QOp_not _ _ _ rfl rfl) ?_
          refine AOps_q 24 _ rfl rfl rfl (QOp_pick_f _ _ _ _ rfl rfl rfl) ?_
          refine AOps_q 11 _ rfl rfl rfl (QOp_assign _ _ rfl rfl) ?_
          refine AOps_nil ?_
          cases h
          exact Weak_keep 0 hm [11] [] _ _ rfl rfl rfl
      intro E' H' hw
      refine ACode_weak hw ?_
      have h := hks6
      refine ACode_cond _ rfl (fun hb7 => ?_) (fun hb7 => ?_)
      · have h := iteT hb7 h
        refine ACode_seq (ACode_region ?_)
        refine AOps_q 6 _ rfl rfl rfl (QOp_assign _ _ rfl rfl) ?_
        refine AOps_nil ?_
        refine ACode_ret ?_
        cases h
        have h := hks8
        cases h
        exact ⟨_, _, fun r a w h => ⟨r, h⟩, _, _, [], _, (.cons (ResV_tmp _ _ rfl) .nil), rfl, rfl, rfl, rfl, rfl⟩
      · have h := iteF hb7 h
        refine ACode_skip ?_
        cases h
        exact ⟨_, rfl, Weak_keep 0 hm [] [] _ _ rfl rfl rfl⟩
  rintro E' H' ⟨s8, rfl, hw⟩
  refine ACode_weak hw ?_
  have h := hks8
  refine ACode_seq (ACode_region ?_)
  refine AOps_q 6 _ rfl rfl rfl (QOp_assign _ _ rfl rfl) ?_
  refine AOps_nil ?_
  refine ACode_ret ?_
  cases h
  exact ⟨_, _, fun r a w h => ⟨r, h⟩, _, _, [], _, (.cons (ResV_tmp _ _ rfl) .nil), rfl, rfl, rfl, rfl, rfl⟩

-- loop.example/g01362/spec.l01At
def spec_l01At (p0 : Col) (p1 : Int) (p2 : Int) : Option (Int) :=
  (if 0 ≤ (spec_l01Edge p1 p2) ∧ (spec_l01Edge p1 p2) < 136 then some ((p0.get ((spec_l01Edge p1 p2).toNat)).toNat : Int) else none)
set_option maxRecDepth 100000 in
theorem spec_l01At_ac (p0 : Col) (p1 : Int) (p2 : Int) (r : Int) (h : spec_l01At p0 p1 p2 = some r) : AC Try.prog 45 [.d (.agg (colD p0)), iV p1, iV p2] [] (fun res H' => res = [iV r] ∧ H' = []) := by
  refine AC_of_body true Try.func45 rfl Try.ntmps45 (rvs := [.tmp 6]) rfl rfl (fun G hG => ?_)
  have hm : G.H.length = 0 := by rw [hG]; rfl
  unfold spec_l01At at h
  refine ACode_seq (ACode_region ?_)
  refine AOps_boxI 3 _ _ (.agg (colD p0)) (colD p0) rfl (colD_one _) rfl rfl rfl rfl rfl ?_
  refine AOps_q 6 _ rfl rfl rfl (QOp_assign _ _ rfl rfl) ?_
  refine AOps_nil ?_
  refine ACode_seq (ACode_region ?_)
  refine AOps_q 7 _ rfl rfl rfl (QOp_move _ _ rfl rfl) ?_
  refine AOps_q 8 _ rfl rfl rfl (QOp_move _ _ rfl rfl) ?_
  refine AOps_call [] 9 _ _ _ _ _ _ _ _ _ _ rfl rfl rfl rfl rfl rfl rfl Try.call30 rfl (nodupB_sound _ rfl) rfl rfl rfl (spec_l01Edge_ac p1 p2) ?_
  rintro _ _ ⟨rfl, rfl⟩
  refine ⟨(fun _ h => nomatch h), (allc (trivial) (fun _ h => nomatch h)), AOps_as 9 (v' := iV (spec_l01Edge p1 p2)) (H' := []) rfl rfl ?_⟩
  refine AOps_q 10 _ rfl rfl rfl (QOp_fieldAddr_pv _ _ _ _ _ 2 _ _ rfl Try.underlying31 rfl _ Try.sizeOf25 rfl rfl) ?_
  obtain ⟨hc2, h⟩ := guardO h
  refine AOps_q 11 _ rfl rfl rfl (QOp_indexAddrA_pv _ _ _ _ _ _ _ _ _ rfl Try.underlying25 Try.sizeOf5 hc2.1 hc2.2 rfl rfl) ?_
  refine AOps_q 12 _ rfl rfl rfl (QOp_load_pv _ _ _ _ _ rfl Try.isAgg5 rfl (colD_get _ _ (by omega))) ?_
  refine AOps_q 13 _ rfl rfl rfl (QOp_fromByte _ _ _ _ _ rfl rfl Try.underlying2 wrap_i64_byte rfl) ?_
  refine AOps_q 6 _ rfl rfl rfl (QOp_assign _ _ rfl rfl) ?_
  refine AOps_nil ?_
  refine ACode_ret ?_
  cases h
  exact ⟨_, _, fun r a w h => ⟨r, h⟩, _, _, [], _, (.cons (ResV_tmp _ _ rfl) .nil), rfl, rfl, rfl, rfl, rfl⟩

-- loop.example/g01362/spec.l10Closed
def spec_l10Closed_l2 (p0 : Col) (p1 : Int) (x1 : Int) (x3 : Int) : Nat → Int → Option (Sum (Unit) (Sum (Unit) (Sum (Unit) (Bool))))
  | 0, _ => none
  | k2 + 1, x5 => (if decide (x5 < x3) then (((spec_l01At p0 x5 x3).bind fun r7 => (if decide (r7 = p1) then (spec_l01At p0 x3 x1).bind fun r9 => (if decide (r9 = p1) then (spec_l01At p0 x5 x1).bind fun r11 => some (!decide (r11 = p1)) else some false) else some false) : Option (Bool)).bind fun s12 => (if s12 then (((some (.inr false)).bind fun rr => some (.inr rr)).bind fun rr => some (.inr rr)).bind fun rr => some (.inr rr) else some (.inl ())) : Option (Sum (Unit) (Sum (Unit) (Sum (Unit) (Sum (Unit) (Bool)))))).bind fun os14 => (match os14 with | .inl s14 => spec_l10Closed_l2 p0 p1 x1 x3 k2 (w64 (x5 + 1)) | .inr rr => some rr) else some (.inl ()))
def spec_l10Closed_l1 (k : Nat) (p0 : Col) (p1 : Int) (x1 : Int) : Nat → Int → Option (Sum (Unit) (Sum (Unit) (Bool)))
  | 0, _ => none
  | k1 + 1, x3 => (if decide (x3 < x1) then (spec_l10Closed_l2 p0 p1 x1 x3 k 0 : Option (Sum (Unit) (Sum (Unit) (Sum (Unit) (Bool))))).bind fun os15 => (match os15 with | .inl s15 => spec_l10Closed_l1 k p0 p1 x1 k1 (w64 (x3 + 1)) | .inr rr => some rr) else some (.inl ()))
def spec_l10Closed_l0 (k : Nat) (p0 : Col) (p1 : Int) : Nat → Int → Option (Sum (Unit) (Bool))
  | 0, _ => none
  | k0 + 1, x1 => (if decide (x1 < p0.p) then (spec_l10Closed_l1 k p0 p1 x1 k 1 : Option (Sum (Unit) (Sum (Unit) (Bool)))).bind fun os16 => (match os16 with | .inl s16 => spec_l10Closed_l0 k p0 p1 k0 (w64 (x1 + 1)) | .inr rr => some rr) else some (.inl ()))
def spec_l10Closed (k : Nat) (p0 : Col) (p1 : Int) : Option (Bool) :=
  (spec_l10Closed_l0 k p0 p1 k 2 : Option (Sum (Unit) (Bool))).bind fun os17 => (match os17 with | .inl s17 => some true | .inr rr => some rr)
set_option maxRecDepth 100000 in
theorem spec_l10Closed_ac (k : Nat) (p0 : Col) (p1 : Int) (r : Bool) (h : spec_l10Closed k p0 p1 = some r) : AC Try.prog 37 [.d (.agg (colD p0)), iV p1] [] (fun res H' => res = [bV r] ∧ H' = []) := by
  refine AC_of_body true Try.func37 rfl Try.ntmps37 (rvs := [.tmp 4]) rfl rfl (fun G hG => ?_)
  have hm : G.H.length = 0 := by rw [hG]; rfl
  unfold spec_l10Closed at h
  refine ACode_seq (ACode_region ?_)
  refine AOps_boxI 2 _ _ (.agg (colD p0)) (colD p0) rfl (colD_one _) rfl rfl rfl rfl rfl ?_
  refine AOps_q 4 _ rfl rfl rfl (QOp_assign _ _ rfl rfl) ?_
  refine AOps_nil ?_
  obtain ⟨os17, hss17, hks17⟩ := bindO h
  clear h
  refine ACode_seqJ (fun E' H' => ∃ s17 : Unit, os17 = .inl s17 ∧ Weak 46 G E' H' [] []) ?_ ?_
  · have h := hss17
    clear hss17
    refine ACode_seq (ACode_region ?_)
    refine AOps_q 5 _ rfl rfl rfl (QOp_assign _ _ rfl rfl) ?_
    refine AOps_nil ?_
    refine ACode_block ?_
    refine ACode_loopW (fun k0 E H => ∃ (x1 : Int), E = [(1, iV p1), (2, .d (.pv (colD p0) 0)), (5, iV x1)] ∧ H = [] ∧ spec_l10Closed_l0 k p0 p1 k0 x1 = some os17) k _ _ (Weak_keep 0 hm [1, 2, 5] [] _ _ rfl rfl rfl) ⟨_, rfl, rfl, h⟩ ?_
    clear h
    rintro k0 E H ⟨x1, rfl, rfl, h⟩
    cases k0 with
    | zero => cases (show (none : Option (Sum (Unit) (Bool))) = some _ from h)
    | succ k0 =>
      rw [spec_l10Closed_l0] at h
      refine ACode_seq ?_
      refine ACode_seq (ACode_region ?_)
      refine AOps_q 8 _ rfl rfl rfl (QOp_move _ _ rfl rfl) ?_
      refine AOps_q 9 _ rfl rfl rfl (QOp_fieldAddr_pv _ _ _ _ _ 0 _ _ rfl Try.underlying31 rfl _ Try.sizeOf2 rfl rfl) ?_
      refine AOps_q 10 _ rfl rfl rfl (QOp_load_pv _ _ _ _ _ rfl Try.isAgg2 rfl rfl) ?_
      refine AOps_q 11 _ rfl rfl rfl (QOp_lss _ _ _ _ _ _ _ rfl rfl rfl) ?_
      refine AOps_nil ?_
      refine ACode_cond _ rfl (fun hb2 => ?_) (fun hb2 => ?_)
      · have h := iteT hb2 h
        refine ACode_skip ?_
        obtain ⟨os16, hss16, hks16⟩ := bindO h
        clear h
        refine ACode_seqJ (fun E' H' => ∃ s16 : Unit, os16 = .inl s16 ∧ Weak 46 G E' H' [(1, iV p1), (2, .d (.pv (colD p0) 0)), (5, iV x1)] []) ?_ ?_
        · have h := hss16
          clear hss16
          refine ACode_block ?_
          refine ACode_seq (ACode_region ?_)
          refine AOps_q 6 _ rfl rfl rfl (QOp_assign _ _ rfl rfl) ?_
          refine AOps_nil ?_
          refine ACode_block ?_
          refine ACode_loopW (fun k1 E H => ∃ (x3 : Int), E = [(1, iV p1), (2, .d (.pv (colD p0) 0)), (5, iV x1), (6, iV x3)] ∧ H = [] ∧ spec_l10Closed_l1 k p0 p1 x1 k1 x3 = some os16) k _ _ (Weak_keep 0 hm [1, 2, 5, 6] [] _ _ rfl rfl rfl) ⟨_, rfl, rfl, h⟩ ?_
          clear h
          rintro k1 E H ⟨x3, rfl, rfl, h⟩
          cases k1 with
          | zero => cases (show (none : Option (Sum (Unit) (Sum (Unit) (Bool)))) = some _ from h)
          | succ k1 =>
            rw [spec_l10Closed_l1] at h
            refine ACode_seq ?_
            refine ACode_seq (ACode_region ?_)
            refine AOps_q 14 _ rfl rfl rfl (QOp_move _ _ rfl rfl) ?_
            refine AOps_q 15 _ rfl rfl rfl (QOp_move _ _ rfl rfl) ?_
            refine AOps_q 16 _ rfl rfl rfl (QOp_lss _ _ _ _ _ _ _ rfl rfl rfl) ?_
            refine AOps_nil ?_
            refine ACode_cond _ rfl (fun hb4 => ?_) (fun hb4 => ?_)
            · have h := iteT hb4 h
              refine ACode_skip ?_
              obtain ⟨os15, hss15, hks15⟩ := bindO h
              clear h
              refine ACode_seqJ (fun E' H' => ∃ s15 : Unit, os15 = .inl s15 ∧ Weak 46 G E' H' [(1, iV p1), (2, .d (.pv (colD p0) 0)), (5, iV x1), (6, iV x3)] []) ?_ ?_
              · have h := hss15
                clear hss15
                refine ACode_block ?_
                refine ACode_seq (ACode_region ?_)
                refine AOps_q 7 _ rfl rfl rfl (QOp_assign _ _ rfl rfl) ?_
                refine AOps_nil ?_
                refine ACode_block ?_
                refine ACode_loopW (fun k2 E H => ∃ (x5 : Int), E = [(1, iV p1), (2, .d (.pv (colD p0) 0)), (5, iV x1), (6, iV x3), (7, iV x5)] ∧ H = [] ∧ spec_l10Closed_l2 p0 p1 x1 x3 k2 x5 = some os15) k _ _ (Weak_keep 0 hm [1, 2, 5, 6, 7] [] _ _ rfl rfl rfl) ⟨_, rfl, rfl, h⟩ ?_
                clear h
                rintro k2 E H ⟨x5, rfl, rfl, h⟩
                cases k2 with
                | zero => cases (show (none : Option (Sum (Unit) (Sum (Unit) (Sum (Unit) (Bool))))) = some _ from h)
                | succ k2 =>
                  rw [spec_l10Closed_l2] at h
                  refine ACode_seq ?_
                  refine ACode_seq (ACode_region ?_)
                  refine AOps_q 19 _ rfl rfl rfl (QOp_move _ _ rfl rfl) ?_
                  refine AOps_q 20 _ rfl rfl rfl (QOp_move _ _ rfl rfl) ?_
                  refine AOps_q 21 _ rfl rfl rfl (QOp_lss _ _ _ _ _ _ _ rfl rfl rfl) ?_
                  refine AOps_nil ?_
                  refine ACode_cond _ rfl (fun hb6 => ?_) (fun hb6 => ?_)
                  · have h := iteT hb6 h
                    refine ACode_skip ?_
                    obtain ⟨os14, hss14, hks14⟩ := bindO h
                    clear h
                    refine ACode_seqJ (fun E' H' => ∃ s14 : Unit, os14 = .inl s14 ∧ Weak 46 G E' H' [(1, iV p1), (2, .d (.pv (colD p0) 0)), (5, iV x1), (6, iV x3), (7, iV x5)] []) ?_ ?_
                    · have h := hss14
                      clear hss14
                      refine ACode_block ?_
                      obtain ⟨s12, hss12, hks12⟩ := bindO h
                      clear h
                      refine ACode_seqJ (fun E' H' => Weak 46 G E' H' [(1, iV p1), (2, .d (.pv (colD p0) 0)), (5, iV x1), (6, iV x3), (7, iV x5), (45, bV s12)] []) ?_ ?_
                      · have h := hss12
                        clear hss12
                        refine (ACode_region ?_)
                        refine AOps_q 24 _ rfl rfl rfl (QOp_loadN_pv _ _ _ _ _ _ rfl Try.isAgg31 Try.sizeOf31 rfl (colD_all _) (colD_length _)) ?_
                        refine AOps_q 25 _ rfl rfl rfl (QOp_move _ _ rfl rfl) ?_
                        refine AOps_q 26 _ rfl rfl rfl (QOp_move _ _ rfl rfl) ?_
                        obtain ⟨r7, hr7, h⟩ := bindO h
                        refine AOps_call [] 27 _ _ _ _ _ _ _ _ _ _ rfl rfl rfl rfl rfl rfl rfl Try.call45 rfl (nodupB_sound _ rfl) rfl rfl rfl (spec_l01At_ac p0 x5 x3 _ hr7) ?_
                        rintro _ _ ⟨rfl, rfl⟩
                        refine ⟨(fun _ h => nomatch h), (allc (trivial) (fun _ h => nomatch h)), AOps_as 27 (v' := iV r7) (H' := []) rfl rfl ?_⟩
                        refine AOps_q 28 _ rfl rfl rfl (QOp_move _ _ rfl rfl) ?_
                        refine AOps_q 29 _ rfl rfl rfl (QOp_eql _ _ _ _ _ _ _ rfl rfl rfl) ?_
                        refine AOps_q 30 _ rfl rfl rfl (QOp_move _ _ rfl rfl) ?_
                        refine AOps_case 30 _ rfl (fun hb8 => ?_) (fun hb8 => ?_)
                        · have h := iteT hb8 h
                          refine AOps_q 31 _ rfl rfl rfl (QOp_loadN_pv _ _ _ _ _ _ rfl Try.isAgg31 Try.sizeOf31 rfl (colD_all _) (colD_length _)) ?_
                          refine AOps_q 32 _ rfl rfl rfl (QOp_move _ _ rfl rfl) ?_
                          refine AOps_q 33 _ rfl rfl rfl (QOp_move _ _ rfl rfl) ?_
                          obtain ⟨r9, hr9, h⟩ := bindO h
                          refine AOps_call [] 34 _ _ _ _ _ _ _ _ _ _ rfl rfl rfl rfl rfl rfl rfl Try.call45 rfl (nodupB_sound _ rfl) rfl rfl rfl (spec_l01At_ac p0 x3 x1 _ hr9) ?_
                          rintro _ _ ⟨rfl, rfl⟩
                          refine ⟨(fun _ h => nomatch h), (allc (trivial) (fun _ h => nomatch h)), AOps_as 34 (v' := iV r9) (H' := []) rfl rfl ?_⟩
                          refine AOps_q 35 _ rfl rfl rfl (QOp_move _ _ rfl rfl) ?_
                          refine AOps_q 36 _ rfl rfl rfl (QOp_eql _ _ _ _ _ _ _ rfl rfl rfl) ?_
                          refine AOps_q 37 _ rfl rfl rfl (QOp_pick_t _ _ _ _ rfl rfl rfl) ?_
                          refine AOps_q 38 _ rfl rfl rfl (QOp_move _ _ rfl rfl) ?_
                          refine AOps_case 38 _ rfl (fun hb10 => ?_) (fun hb10 => ?_)
                          · have h := iteT hb10 h
                            refine AOps_q 39 _ rfl rfl rfl (QOp_loadN_pv _ _ _ _ _ _ rfl Try.isAgg31 Try.sizeOf31 rfl (colD_all _) (colD_length _)) ?_
                            refine AOps_q 40 _ rfl rfl rfl (QOp_move _ _ rfl rfl) ?_
                            refine AOps_q 41 _ rfl rfl rfl (QOp_move _ _ rfl rfl) ?_
                            obtain ⟨r11, hr11, h⟩ := bindO h
                            refine AOps_call [] 42 _ _ _ _ _ _ _ _ _ _ rfl rfl rfl rfl rfl rfl rfl Try.call45 rfl (nodupB_sound _ rfl) rfl rfl rfl (spec_l01At_ac p0 x5 x1 _ hr11) ?_
                            rintro _ _ ⟨rfl, rfl⟩
                            refine ⟨(fun _ h => nomatch h), (allc (trivial) (fun _ h => nomatch h)), AOps_as 42 (v' := iV r11) (H' := []) rfl rfl ?_⟩
                            refine AOps_q 43 _ rfl rfl rfl (QOp_move _ _ rfl rfl) ?_
                            refine AOps_q 44 _ rfl rfl rfl (QOp_neq _ _ _ _ _ _ _ rfl rfl rfl) ?_
                            refine AOps_q 45 _ rfl rfl rfl (QOp_pick_t _ _ _ _ rfl rfl rfl) ?_
                            refine AOps_nil ?_
                            cases h
                            exact Weak_keep 0 hm [1, 2, 5, 6, 7, 45] [] _ _ rfl rfl rfl
                          · have h := iteF hb10 h
                            refine AOps_skip 39 rfl rfl rfl ?_
                            refine AOps_skip 40 rfl rfl rfl ?_
                            refine AOps_skip 41 rfl rfl rfl ?_
                            refine AOps_skip 42 rfl rfl rfl ?_
                            refine AOps_skip 43 rfl rfl rfl ?_
                            refine AOps_skip 44 rfl rfl rfl ?_
                            refine AOps_q 45 _ rfl rfl rfl (QOp_pick_f _ _ _ _ rfl rfl rfl) ?_
                            refine AOps_nil ?_
                            cases h
                            exact Weak_keep 0 hm [1, 2, 5, 6, 7, 45] [] _ _ rfl rfl rfl
                        · have h := iteF hb8 h
                          refine AOps_skip 31 rfl rfl rfl ?_
                          refine AOps_skip 32 rfl rfl rfl ?_
                          refine AOps_skip 33 rfl rfl rfl ?_
                          refine AOps_skip 34 rfl rfl rfl ?_
                          refine AOps_skip 35 rfl rfl rfl ?_
                          refine AOps_skip 36 rfl rfl rfl ?_
                          refine AOps_q 37 _ rfl rfl rfl (QOp_pick_f _ _ _ _ rfl rfl rfl) ?_
                          refine AOps_q 38 _ rfl rfl rfl (QOp_move _ _ rfl rfl) ?_
                          refine AOps_skip 39 rfl rfl rfl ?_
                          refine AOps_skip 40 rfl rfl rfl ?_
                          refine AOps_skip 41 rfl rfl rfl ?_
                          refine AOps_skip 42 rfl rfl rfl ?_
                          refine AOps_skip 43 rfl rfl rfl ?_
                          refine AOps_skip 44 rfl rfl rfl ?_
                          refine AOps_q 45 _ rfl rfl rfl (QOp_pick_f _ _ _ _ rfl rfl rfl) ?_
                          refine AOps_nil ?_
                          cases h
                          exact Weak_keep 0 hm [1, 2, 5, 6, 7, 45] [] _ _ rfl rfl rfl
                      intro E' H' hw
                      refine ACode_weak hw ?_
                      have h := hks12
                      refine ACode_cond _ rfl (fun hb13 => ?_) (fun hb13 => ?_)
                      · have h := iteT hb13 h
                        refine ACode_seq (ACode_region ?_)
                        refine AOps_q 4 _ rfl rfl rfl (QOp_assign _ _ rfl rfl) ?_
                        refine AOps_nil ?_
                        refine ACode_ret ?_
                        obtain ⟨rr, hz20, h2⟩ := bindO h
                        obtain rfl := Option.some.inj h2
                        obtain rfl := Option.some.inj (show some rr = some _ from hks14)
                        have h := hz20
                        obtain ⟨rr, hz19, h2⟩ := bindO h
                        obtain rfl := Option.some.inj h2
                        obtain rfl := Option.some.inj (show some rr = some _ from hks15)
                        have h := hz19
                        obtain ⟨rr, hz18, h2⟩ := bindO h
                        obtain rfl := Option.some.inj h2
                        obtain rfl := Option.some.inj (show some rr = some _ from hks16)
                        have h := hz18
                        cases h
                        have h := hks17
                        cases h
                        exact ⟨_, _, fun r a w h => ⟨r, h⟩, _, _, [], _, (.cons (ResV_tmp _ _ rfl) .nil), rfl, rfl, rfl, rfl, rfl⟩
                      · have h := iteF hb13 h
                        refine ACode_skip ?_
                        cases h
                        exact ⟨_, rfl, Weak_keep 0 hm [1, 2, 5, 6, 7] [] _ _ rfl rfl rfl⟩
                    rintro E' H' ⟨s14, rfl, hw⟩
                    refine ACode_weak hw ?_
                    have h := hks14
                    refine (ACode_region ?_)
                    refine AOps_q 22 _ rfl rfl rfl (QOp_move _ _ rfl rfl) ?_
                    refine AOps_q 23 _ rfl rfl rfl (QOp_add _ _ _ _ _ _ _ rfl rfl rfl) ?_
                    refine AOps_q 7 _ rfl rfl rfl (QOp_assign _ _ rfl rfl) ?_
                    refine AOps_nil ?_
                    exact ⟨k2, _, _, Nat.lt_succ_self _, Weak_keep 0 hm [1, 2, 5, 6, 7] [] _ _ rfl rfl rfl, _, rfl, rfl, h⟩
                  · have h := iteF hb6 h
                    refine ACode_exit ?_
                    cases h
                    exact ⟨_, rfl, Weak_keep 0 hm [1, 2, 5, 6] [] _ _ rfl rfl rfl⟩
              rintro E' H' ⟨s15, rfl, hw⟩
              refine ACode_weak hw ?_
              have h := hks15
              refine (ACode_region ?_)
              refine AOps_q 17 _ rfl rfl rfl (QOp_move _ _ rfl rfl) ?_
              refine AOps_q 18 _ rfl rfl rfl (QOp_add _ _ _ _ _ _ _ rfl rfl rfl) ?_
              refine AOps_q 6 _ rfl rfl rfl (QOp_assign _ _ rfl rfl) ?_
              refine AOps_nil ?_
              exact ⟨k1, _, _, Nat.lt_succ_self _, Weak_keep 0 hm [1, 2, 5, 6] [] _ _ rfl rfl rfl, _, rfl, rfl, h⟩
            · have h := iteF hb4 h
              refine ACode_exit ?_
              cases h
              exact ⟨_, rfl, Weak_keep 0 hm [1, 2, 5] [] _ _ rfl rfl rfl⟩
        rintro E' H' ⟨s16, rfl, hw⟩
        refine ACode_weak hw ?_
        have h := hks16
        refine (ACode_region ?_)
        refine AOps_q 12 _ rfl rfl rfl (QOp_move _ _ rfl rfl) ?_
        refine AOps_q 13 _ rfl rfl rfl (QOp_add _ _ _ _ _ _ _ rfl rfl rfl) ?_
        refine AOps_q 5 _ rfl rfl rfl (QOp_assign _ _ rfl rfl) ?_
        refine AOps_nil ?_
        exact ⟨k0, _, _, Nat.lt_succ_self _, Weak_keep 0 hm [1, 2, 5] [] _ _ rfl rfl rfl, _, rfl, rfl, h⟩
      · have h := iteF hb2 h
        refine ACode_exit ?_
        cases h
        exact ⟨_, rfl, Weak_keep 0 hm [] [] _ _ rfl rfl rfl⟩
  rintro E' H' ⟨s17, rfl, hw⟩
  refine ACode_weak hw ?_
  have h := hks17
  refine ACode_seq (ACode_region ?_)
  refine AOps_q 4 _ rfl rfl rfl (QOp_assign _ _ rfl rfl) ?_
  refine AOps_nil ?_
  refine ACode_ret ?_
  cases h
  exact ⟨_, _, fun r a w h => ⟨r, h⟩, _, _, [], _, (.cons (ResV_tmp _ _ rfl) .nil), rfl, rfl, rfl, rfl, rfl⟩

-- loop.example/g01362/spec.IsClosedColour
def spec_IsClosedColour (k : Nat) (p0 : Col) (p1 : Int) : Option (Bool × Int) :=
  (spec_l01Given k p0 p1 ([])).bind fun r1 => (if !decide (r1 = 0) then some (false, r1) else (spec_l10Closed k p0 p1).bind fun r3 => some (r3, 0))
set_option maxRecDepth 100000 in
theorem spec_IsClosedColour_ac (k : Nat) (p0 : Col) (p1 : Int) (r : Bool × Int) (h : spec_IsClosedColour k p0 p1 = some r) : AC Try.prog 20 [.d (.agg (colD p0)), iV p1] [] (fun res H' => res = [bV r.1, iV r.2] ∧ H' = []) := by
  refine AC_of_body true Try.func20 rfl Try.ntmps20 (rvs := [.tmp 4, .tmp 5]) rfl rfl (fun G hG => ?_)
  have hm : G.H.length = 0 := by rw [hG]; rfl
  unfold spec_IsClosedColour at h
  refine ACode_seq (ACode_region ?_)
  refine AOps_boxI 2 _ _ (.agg (colD p0)) (colD p0) rfl (colD_one _) rfl rfl rfl rfl rfl ?_
  refine AOps_q 4 _ rfl rfl rfl (QOp_assign _ _ rfl rfl) ?_
  refine AOps_q 5 _ rfl rfl rfl (QOp_assign _ _ rfl rfl) ?_
  refine AOps_nil ?_
  refine ACode_seq ?_
  refine ACode_seq (ACode_region ?_)
  refine AOps_q 7 _ rfl rfl rfl (QOp_loadN_pv _ _ _ _ _ _ rfl Try.isAgg31 Try.sizeOf31 rfl (colD_all _) (colD_length _)) ?_
  refine AOps_q 8 _ rfl rfl rfl (QOp_move _ _ rfl rfl) ?_
  obtain ⟨r1, hr1, h⟩ := bindO h
  refine AOps_call [] 9 _ _ _ _ _ _ _ _ _ _ rfl rfl rfl rfl rfl rfl rfl Try.call36 rfl (nodupB_sound _ rfl) rfl rfl rfl (spec_l01Given_ac k p0 p1 ([]) _ hr1) ?_
  rintro _ _ ⟨rfl, rfl⟩
  refine ⟨(fun _ h => nomatch h), (allc (trivial) (fun _ h => nomatch h)), AOps_as 9 (v' := iV r1) (H' := []) rfl rfl ?_⟩
  refine AOps_q 6 _ rfl rfl rfl (QOp_assign _ _ rfl rfl) ?_
  refine AOps_nil ?_
  refine ACode_seq (ACode_region ?_)
  refine AOps_q 10 _ rfl rfl rfl (QOp_move _ _ rfl rfl) ?_
  refine AOps_q 11 _ rfl rfl rfl (QOp_neq _ _ _ _ _ _ _ rfl rfl rfl) ?_
  refine AOps_nil ?_
  refine ACode_cond _ rfl (fun hb2 => ?_) (fun hb2 => ?_)
  · have h := iteT hb2 h
    refine ACode_seq (ACode_region ?_)
    refine AOps_q 12 _ rfl rfl rfl (QOp_move _ _ rfl rfl) ?_
    refine AOps_q 4 _ rfl rfl rfl (QOp_assign _ _ rfl rfl) ?_
    refine AOps_q 5 _ rfl rfl rfl (QOp_assign _ _ rfl rfl) ?_
    refine AOps_nil ?_
    refine ACode_ret ?_
    cases h
    exact ⟨_, _, fun r a w h => ⟨r, h⟩, _, _, [], _, (.cons (ResV_tmp _ _ rfl) (.cons (ResV_tmp _ _ rfl) .nil)), rfl, rfl, rfl, rfl, rfl⟩
  · have h := iteF hb2 h
    refine ACode_skip ?_
    refine ACode_seq (ACode_region ?_)
    refine AOps_q 13 _ rfl rfl rfl (QOp_loadN_pv _ _ _ _ _ _ rfl Try.isAgg31 Try.sizeOf31 rfl (colD_all _) (colD_length _)) ?_
    refine AOps_q 14 _ rfl rfl rfl (QOp_move _ _ rfl rfl) ?_
    obtain ⟨r3, hr3, h⟩ := bindO h
    refine AOps_call [] 15 _ _ _ _ _ _ _ _ _ _ rfl rfl rfl rfl rfl rfl rfl Try.call37 rfl (nodupB_sound _ rfl) rfl rfl rfl (spec_l10Closed_ac k p0 p1 _ hr3) ?_
    rintro _ _ ⟨rfl, rfl⟩
    refine ⟨(fun _ h => nomatch h), (allc (trivial) (fun _ h => nomatch h)), AOps_as 15 (v' := bV r3) (H' := []) rfl rfl ?_⟩
    refine AOps_q 4 _ rfl rfl rfl (QOp_assign _ _ rfl rfl) ?_
    refine AOps_q 5 _ rfl rfl rfl (QOp_assign _ _ rfl rfl) ?_
    refine AOps_nil ?_
    refine ACode_ret ?_
    cases h
    exact ⟨_, _, fun r a w h => ⟨r, h⟩, _, _, [], _, (.cons (ResV_tmp _ _ rfl) (.cons (ResV_tmp _ _ rfl) .nil)), rfl, rfl, rfl, rfl, rfl⟩

-- (*loop.example/g01362/impl.Colouring).code
def impl_Colouring_code (k : Nat) (p0 : Col) (p1 : Option (Bool)) : Option (Int) :=
  (impl_Colouring_isColouring k p0).bind fun r1 => (if !r1 then some 1 else (p1).bind fun r3 => (if !r3 then some 2 else some 0))
set_option maxRecDepth 100000 in
theorem impl_Colouring_code_ac (k : Nat) (p0 : Col) (p1 : Option (Bool)) (g_p1 : FuncId) (c_p1 : List D) (hg_p1 : ∀ args w, (callFunc g_p1 args).run Try.prog w = .ok (.enter g_p1 args) w) (hf_p1 : ∀ (r : Bool), p1 = some r → AC Try.prog g_p1 ([] ++ c_p1.map AV.d) [] (fun res H' => res = [bV r] ∧ H' = [])) (r : Int) (h : impl_Colouring_code k p0 p1 = some r) : AC Try.prog 46 [.d (.pv (colD p0) 0), .d (.clo g_p1 c_p1)] [] (fun res H' => res = [iV r] ∧ H' = []) := by
  refine AC_of_body true Try.func46 rfl Try.ntmps46 (rvs := [.tmp 4]) rfl rfl (fun G hG => ?_)
  have hm : G.H.length = 0 := by rw [hG]; rfl
  unfold impl_Colouring_code at h
  refine ACode_seq (ACode_region ?_)
  refine AOps_q 4 _ rfl rfl rfl (QOp_assign _ _ rfl rfl) ?_
  refine AOps_nil ?_
  refine ACode_seq ?_
  refine ACode_block ?_
  refine ACode_seq (ACode_region ?_)
  refine AOps_q 6 _ rfl rfl rfl (QOp_move _ _ rfl rfl) ?_
  obtain ⟨r1, hr1, h⟩ := bindO h
  refine AOps_call [] 7 _ _ _ _ _ _ _ _ _ _ rfl rfl rfl rfl rfl rfl rfl Try.call41 rfl (nodupB_sound _ rfl) rfl rfl rfl (impl_Colouring_isColouring_ac k p0 _ hr1) ?_
  rintro _ _ ⟨rfl, rfl⟩
  refine ⟨(fun _ h => nomatch h), (allc (trivial) (fun _ h => nomatch h)), AOps_as 7 (v' := bV r1) (H' := []) rfl rfl ?_⟩
  refine AOps_q 8 _ rfl rfl rfl (QOp_not _ _ _ rfl rfl) ?_
  refine AOps_q 5 _ rfl rfl rfl (QOp_assign _ _ rfl rfl) ?_
  refine AOps_nil ?_
  refine ACode_cond _ rfl (fun hb2 => ?_) (fun hb2 => ?_)
  · have h := iteT hb2 h
    refine ACode_seq (ACode_region ?_)
    refine AOps_q 4 _ rfl rfl rfl (QOp_assign _ _ rfl rfl) ?_
    refine AOps_nil ?_
    refine ACode_ret ?_
    cases h
    exact ⟨_, _, fun r a w h => ⟨r, h⟩, _, _, [], _, (.cons (ResV_tmp _ _ rfl) .nil), rfl, rfl, rfl, rfl, rfl⟩
  · have h := iteF hb2 h
    refine ACode_seq (ACode_region ?_)
    refine AOps_q 10 _ rfl rfl rfl (QOp_move _ _ rfl rfl) ?_
    obtain ⟨r3, hr3, h⟩ := bindO h
    refine AOps_call [] 11 _ _ _ _ _ _ _ _ _ _ rfl rfl rfl rfl rfl rfl rfl hg_p1 rfl (nodupB_sound _ rfl) rfl rfl (viewA_mapD _) (hf_p1 _ hr3) ?_
    rintro _ _ ⟨rfl, rfl⟩
    refine ⟨(fun _ h => nomatch h), (allc (trivial) (fun _ h => nomatch h)), AOps_as 11 (v' := bV r3) (H' := []) rfl rfl ?_⟩
    refine AOps_q 12 _ rfl rfl rfl (QOp_not _ _ _ rfl rfl) ?_
    refine AOps_q 9 _ rfl rfl rfl (QOp_assign _ _ rfl rfl) ?_
    refine AOps_nil ?_
    refine ACode_cond _ rfl (fun hb4 => ?_) (fun hb4 => ?_)
    · have h := iteT hb4 h
      refine ACode_seq (ACode_region ?_)
      refine AOps_q 4 _ rfl rfl rfl (QOp_assign _ _ rfl rfl) ?_
      refine AOps_nil ?_
      refine ACode_ret ?_
      cases h
      exact ⟨_, _, fun r a w h => ⟨r, h⟩, _, _, [], _, (.cons (ResV_tmp _ _ rfl) .nil), rfl, rfl, rfl, rfl, rfl⟩
    · have h := iteF hb4 h
      refine ACode_skip ?_
      refine ACode_seq (ACode_region ?_)
      refine AOps_q 4 _ rfl rfl rfl (QOp_assign _ _ rfl rfl) ?_
      refine AOps_nil ?_
      refine ACode_ret ?_
      cases h
      exact ⟨_, _, fun r a w h => ⟨r, h⟩, _, _, [], _, (.cons (ResV_tmp _ _ rfl) .nil), rfl, rfl, rfl, rfl, rfl⟩

-- (*loop.example/g01362/impl.Colouring).hasColour
def impl_Colouring_hasColour (p0 : Col) (p1 : Int) : Bool :=
  (impl_in p1 0 (w64 (p0.k - 1)))
set_option maxRecDepth 100000 in
theorem impl_Colouring_hasColour_ac (p0 : Col) (p1 : Int) : AC Try.prog 48 [.d (.pv (colD p0) 0), iV p1] [] (fun res H' => res = [bV (impl_Colouring_hasColour p0 p1)] ∧ H' = []) := by
  refine AC_of_body true Try.func48 rfl Try.ntmps48 (rvs := [.tmp 4]) rfl rfl (fun G hG => ?_)
  have hm : G.H.length = 0 := by rw [hG]; rfl
  obtain ⟨r, h⟩ : ∃ r, impl_Colouring_hasColour p0 p1 = r := ⟨_, rfl⟩
  rw [h]
  unfold impl_Colouring_hasColour at h
  refine ACode_seq (ACode_region ?_)
  refine AOps_q 4 _ rfl rfl rfl (QOp_assign _ _ rfl rfl) ?_
  refine AOps_nil ?_
  refine ACode_seq (ACode_region ?_)
  refine AOps_q 5 _ rfl rfl rfl (QOp_move _ _ rfl rfl) ?_
  refine AOps_q 6 _ rfl rfl rfl (QOp_move _ _ rfl rfl) ?_
  refine AOps_q 7 _ rfl rfl rfl (QOp_nilCheck_pv _ _ _ rfl rfl) ?_
  refine AOps_q 8 _ rfl rfl rfl (QOp_fieldAddr_pv _ _ _ _ _ 1 _ _ rfl Try.underlying31 rfl _ Try.sizeOf2 rfl rfl) ?_
  refine AOps_q 9 _ rfl rfl rfl (QOp_load_pv _ _ _ _ _ rfl Try.isAgg2 rfl rfl) ?_
  refine AOps_q 10 _ rfl rfl rfl (QOp_sub _ _ _ _ _ _ _ rfl rfl rfl) ?_
  refine AOps_call [] 11 _ _ _ _ _ _ _ _ _ _ rfl rfl rfl rfl rfl rfl rfl Try.call26 rfl (nodupB_sound _ rfl) rfl rfl rfl (impl_in_ac p1 0 (w64 (p0.k - 1))) ?_
  rintro _ _ ⟨rfl, rfl⟩
  refine ⟨(fun _ h => nomatch h), (allc (trivial) (fun _ h => nomatch h)), AOps_as 11 (v' := bV (impl_in p1 0 (w64 (p0.k - 1)))) (H' := []) rfl rfl ?_⟩
  refine AOps_q 4 _ rfl rfl rfl (QOp_assign _ _ rfl rfl) ?_
  refine AOps_nil ?_
  refine ACode_ret ?_
  cases h
  exact ⟨_, _, fun r a w h => ⟨r, h⟩, _, _, [], _, (.cons (ResV_tmp _ _ rfl) .nil), rfl, rfl, rfl, rfl, rfl⟩

-- (*loop.example/g01362/impl.Colouring).colourCode$1
def impl_Colouring_colourCode_c1 (p0 : Col) (p1 : Int) (p2 : Bool) : Bool :=
  letO (if (impl_Colouring_hasColour p0 p1) then p2 else false) fun (s3 : Bool) => s3
set_option maxRecDepth 100000 in
theorem impl_Colouring_colourCode_c1_ac (p0 : Col) (p1 : Int) (p2 : Bool) : AC Try.prog 47 [.d (.pv ([.pv (colD p0) 0]) 0), .d (.pv ([iD p1]) 0), .d (.pv ([.s (.bool p2)]) 0)] [] (fun res H' => res = [bV (impl_Colouring_colourCode_c1 p0 p1 p2)] ∧ H' = []) := by
  refine AC_of_body true Try.func47 rfl Try.ntmps47 (rvs := [.tmp 3]) rfl rfl (fun G hG => ?_)
  have hm : G.H.length = 0 := by rw [hG]; rfl
  obtain ⟨r, h⟩ : ∃ r, impl_Colouring_colourCode_c1 p0 p1 p2 = r := ⟨_, rfl⟩
  rw [h]
  unfold impl_Colouring_colourCode_c1 at h
  refine ACode_seq (ACode_region ?_)
  refine AOps_q 3 _ rfl rfl rfl (QOp_assign _ _ rfl rfl) ?_
  refine AOps_nil ?_
  obtain ⟨s3, hss3, hks3⟩ := letS h
  clear h
  refine ACode_seqJ (fun E' H' => Weak 10 G E' H' [(3, bV s3)] []) ?_ ?_
  · have h := hss3
    clear hss3
    refine (ACode_region ?_)
    refine AOps_q 4 _ rfl rfl rfl (QOp_load_pv _ _ _ _ _ rfl Try.isAgg64 rfl rfl) ?_
    refine AOps_q 5 _ rfl rfl rfl (QOp_load_pv _ _ _ _ _ rfl Try.isAgg2 rfl rfl) ?_
    refine AOps_call [] 6 _ _ _ _ _ _ _ _ _ _ rfl rfl rfl rfl rfl rfl rfl Try.call48 rfl (nodupB_sound _ rfl) rfl rfl rfl (impl_Colouring_hasColour_ac p0 p1) ?_
    rintro _ _ ⟨rfl, rfl⟩
    refine ⟨(fun _ h => nomatch h), (allc (trivial) (fun _ h => nomatch h)), AOps_as 6 (v' := bV (impl_Colouring_hasColour p0 p1)) (H' := []) rfl rfl ?_⟩
    refine AOps_q 7 _ rfl rfl rfl (QOp_move _ _ rfl rfl) ?_
    refine AOps_case 7 _ rfl (fun hb2 => ?_) (fun hb2 => ?_)
    · have h := iteT hb2 h
      refine AOps_q 8 _ rfl rfl rfl (QOp_load_pv _ _ _ _ _ rfl Try.isAgg4 rfl rfl) ?_
      refine AOps_q 9 _ rfl rfl rfl (QOp_pick_t _ _ _ _ rfl rfl rfl) ?_
      refine AOps_q 3 _ rfl rfl rfl (QOp_assign _ _ rfl rfl) ?_
      refine AOps_nil ?_
      cases h
      exact Weak_keep 0 hm [3] [] _ _ rfl rfl rfl
    · have h := iteF hb2 h
      refine AOps_skip 8 rfl rfl rfl ?_
      refine AOps_q 9 _ rfl rfl rfl (QOp_pick_f _ _ _ _ rfl rfl rfl) ?_
      refine AOps_q 3 _ rfl rfl rfl (QOp_assign _ _ rfl rfl) ?_
      refine AOps_nil ?_
      cases h
      exact Weak_keep 0 hm [3] [] _ _ rfl rfl rfl
  intro E' H' hw
  refine ACode_weak hw ?_
  have h := hks3
  refine ACode_ret ?_
  cases h
  exact ⟨_, _, fun r a w h => ⟨r, h⟩, _, _, [], _, (.cons (ResV_tmp _ _ rfl) .nil), rfl, rfl, rfl, rfl, rfl⟩

-- (*loop.example/g01362/impl.Colouring).colourCode
def impl_Colouring_colourCode (k : Nat) (p0 : Col) (p1 : Int) (p2 : Bool) : Option (Int) :=
  (impl_Colouring_code k p0 (some (impl_Colouring_colourCode_c1 p0 p1 p2))).bind fun r1 => some r1
set_option maxRecDepth 100000 in
theorem impl_Colouring_colourCode_ac (k : Nat) (p0 : Col) (p1 : Int) (p2 : Bool) (r : Int) (h : impl_Colouring_colourCode k p0 p1 p2 = some r) : AC Try.prog 39 [.d (.pv (colD p0) 0), iV p1, bV p2] [] (fun res H' => res = [iV r] ∧ H' = []) := by
  refine AC_of_body true Try.func39 rfl Try.ntmps39 (rvs := [.tmp 6]) rfl rfl (fun G hG => ?_)
  have hm : G.H.length = 0 := by rw [hG]; rfl
  unfold impl_Colouring_colourCode at h
  refine ACode_seq (ACode_region ?_)
  refine AOps_boxI 3 _ _ (.pv (colD p0) 0) _ rfl (fun c hc => by cases hc with | head => rfl | tail _ h => cases h) rfl rfl rfl rfl rfl ?_
  refine AOps_boxI 4 _ _ (iD p1) _ rfl (fun c hc => by cases hc with | head => rfl | tail _ h => cases h) rfl rfl rfl rfl rfl ?_
  refine AOps_boxI 5 _ _ (.s (.bool p2)) _ rfl (fun c hc => by cases hc with | head => rfl | tail _ h => cases h) rfl rfl rfl rfl rfl ?_
  refine AOps_q 6 _ rfl rfl rfl (QOp_assign _ _ rfl rfl) ?_
  refine AOps_nil ?_
  refine ACode_seq (ACode_region ?_)
  refine AOps_q 7 _ rfl rfl rfl (QOp_load_pv _ _ _ _ _ rfl Try.isAgg64 rfl rfl) ?_
  refine AOps_q 8 _ rfl rfl rfl (QOp_makeFuncD _ _ _ _ rfl rfl rfl) ?_
  obtain ⟨r1, hr1, h⟩ := bindO h
  refine AOps_call [] 9 _ _ _ _ _ _ _ _ _ _ rfl rfl rfl rfl rfl rfl rfl Try.call46 rfl (nodupB_sound _ rfl) rfl rfl rfl (impl_Colouring_code_ac k p0 (some (impl_Colouring_colourCode_c1 p0 p1 p2)) 47 ([.pv ([.pv (colD p0) 0]) 0, .pv ([iD p1]) 0, .pv ([.s (.bool p2)]) 0]) Try.call47 (fun r h => by cases h; exact impl_Colouring_colourCode_c1_ac p0 p1 p2) _ hr1) ?_
  rintro _ _ ⟨rfl, rfl⟩
  refine ⟨(fun _ h => nomatch h), (allc (trivial) (fun _ h => nomatch h)), AOps_as 9 (v' := iV r1) (H' := []) rfl rfl ?_⟩
  refine AOps_q 6 _ rfl rfl rfl (QOp_assign _ _ rfl rfl) ?_
  refine AOps_nil ?_
  refine ACode_ret ?_
  cases h
  exact ⟨_, _, fun r a w h => ⟨r, h⟩, _, _, [], _, (.cons (ResV_tmp _ _ rfl) .nil), rfl, rfl, rfl, rfl, rfl⟩

-- (*loop.example/g01362/impl.Colouring).at
def impl_Colouring_at (p0 : Col) (p1 : Int) (p2 : Int) : Option (Int) :=
  (if 0 ≤ (impl_number p1 p2) ∧ (impl_number p1 p2) < 136 then some ((p0.get ((impl_number p1 p2).toNat)).toNat : Int) else none)
set_option maxRecDepth 100000 in
theorem impl_Colouring_at_ac (p0 : Col) (p1 : Int) (p2 : Int) (r : Int) (h : impl_Colouring_at p0 p1 p2 = some r) : AC Try.prog 49 [.d (.pv (colD p0) 0), iV p1, iV p2] [] (fun res H' => res = [iV r] ∧ H' = []) := by
  refine AC_of_body true Try.func49 rfl Try.ntmps49 (rvs := [.tmp 6]) rfl rfl (fun G hG => ?_)
  have hm : G.H.length = 0 := by rw [hG]; rfl
  unfold impl_Colouring_at at h
  refine ACode_seq (ACode_region ?_)
  refine AOps_q 6 _ rfl rfl rfl (QOp_assign _ _ rfl rfl) ?_
  refine AOps_nil ?_
  refine ACode_seq (ACode_quiet mixed (by kernel_rfl) ?_)
  refine AQ_q 7 _ rfl rfl rfl (QOp_move _ _ rfl rfl) ?_
  refine AQ_q 8 _ rfl rfl rfl (QOp_move _ _ rfl rfl) ?_
  refine AQ_q 9 _ rfl rfl rfl (QOp_move _ _ rfl rfl) ?_
  refine AQ_call 10 _ _ _ _ _ _ _ _ _ rfl rfl rfl rfl rfl rfl rfl Try.call51 rfl rfl rfl (impl_number_ac p1 p2) ?_
  refine AQ_q 11 _ rfl rfl rfl (QOp_nilCheck_pv _ _ _ rfl rfl) ?_
  refine AQ_q 12 _ rfl rfl rfl (QOp_fieldAddr_pv _ _ _ _ _ 2 _ _ rfl Try.underlying31 rfl _ Try.sizeOf25 rfl rfl) ?_
  obtain ⟨hc2, h⟩ := guardO h
  refine AQ_q 13 _ rfl rfl rfl (QOp_indexAddrA_pv _ _ _ _ _ _ _ _ _ rfl Try.underlying25 Try.sizeOf5 hc2.1 hc2.2 rfl rfl) ?_
  refine AQ_q 14 _ rfl rfl rfl (QOp_load_pv _ _ _ _ _ rfl Try.isAgg5 rfl (colD_get _ _ (by omega))) ?_
  refine AQ_q 15 _ rfl rfl rfl (QOp_fromByte _ _ _ _ _ rfl rfl Try.underlying2 wrap_i64_byte rfl) ?_
  refine AQ_q 6 _ rfl rfl rfl (QOp_assign _ _ rfl rfl) ?_
  refine AQ_nil ?_
  refine ACode_ret ?_
  cases h
  exact ⟨_, _, fun r a w h => ⟨r, h⟩, _, _, [], _, (.cons (ResV_tmp _ _ rfl) .nil), rfl, rfl, rfl, rfl, rfl⟩

end Go.Proofs.Ytgebhhhdckpciaa
