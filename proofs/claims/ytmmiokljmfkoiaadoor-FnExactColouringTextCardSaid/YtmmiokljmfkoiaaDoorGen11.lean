/- Plain functions of the program and that the program computes them: printed by the own tool gen.py. No conditions. -/
import Derived.Test.YtmmiokljmfkoiaaDoorStrV
import Derived.Test.YtmmiokljmfkoiaaDoorAb18
import Derived.Test.YtmmiokljmfkoiaaDoorProg
import Derived.KernelRfl
set_option linter.unusedVariables false
set_option linter.unusedSimpArgs false
namespace Go.Proofs.YtmmiokljmfkoiaaDoor
open Go Go.RowKit Ab

theorem mixed : Tryd.prog.follows .mixedOrders = true := by kernel_rfl

-- loop.example/g01362/laws.toByteA136
def laws_toByteA136_l0 (p0 : B136) : Nat → Int → B136 → Option (B136)
  | 0, _, _ => none
  | k0 + 1, x1, x2 => (if decide (x1 < 136) then (if 0 ≤ x1 ∧ x1 < 136 then (if 0 ≤ x1 ∧ x1 < 136 then laws_toByteA136_l0 p0 k0 (w64 (x1 + 1)) (x2.set x1.toNat (p0.get x1.toNat)) else none) else none) else some x2)
def laws_toByteA136 (k : Nat) (p0 : B136) : Option (B136) :=
  (laws_toByteA136_l0 p0 k 0 B136.zero : Option (B136)).bind fun s6 => some s6
set_option maxRecDepth 100000 in
theorem laws_toByteA136_ac (k : Nat) (p0 : B136) (r : B136) (h : laws_toByteA136 k p0 = some r) : AC Tryd.prog 19 [.d (.agg (byD p0))] [] (fun res H' => res = [.d (.agg (byD r))] ∧ H' = []) := by
  refine AC_of_body true Tryd.func19 rfl Tryd.ntmps19 (rvs := [.cell 2 22]) rfl rfl (fun G hG => ?_)
  have hm : G.H.length = 0 := by rw [hG]; rfl
  have hz : zeroG G.H = true := by rw [hG]; rfl
  unfold laws_toByteA136 at h
  refine ACode_seq (ACode_region ?_)
  refine AOps_boxI 1 _ _ (.agg (byD p0)) (byD p0) rfl (byD_one _) rfl rfl rfl rfl rfl ?_
  refine AOps_alloc 2 _ _ (byD B136.zero) (zero_of Tryd.typeInfo22 rfl) (by rfl) rfl rfl rfl rfl ?_
  refine AOps_nil ?_
  refine ACode_seq (ACode_region ?_)
  refine AOps_alloc 3 _ _ (byD B136.zero) (zero_of Tryd.typeInfo22 rfl) (by rfl) rfl rfl rfl rfl ?_
  refine AOps_nil ?_
  obtain ⟨s6, hss6, hks6⟩ := bindO h
  clear h
  refine ACode_seqJ (fun E' H' => Weak 15 G E' H' [(2, .ptr 0 0), (3, .ptr 1 0)] [.box (byD B136.zero), .box (byD s6)]) ?_ ?_
  · have h := hss6
    clear hss6
    refine ACode_seq (ACode_region ?_)
    refine AOps_q 4 _ rfl rfl rfl (QOp_assign _ _ rfl rfl) ?_
    refine AOps_nil ?_
    refine ACode_block ?_
    refine ACode_loopW (fun k0 E H => ∃ (x1 : Int) (x2 : B136), E = [(1, .d (.pv (byD p0) 0)), (2, .ptr 0 0), (3, .ptr 1 0), (4, iV x1)] ∧ H = [.box (byD B136.zero), .box (byD x2)] ∧ laws_toByteA136_l0 p0 k0 x1 x2 = some s6) k _ _ (Weak_keep 0 hm [1, 2, 3, 4] [0, 1] _ _ rfl rfl rfl) ⟨_, _, rfl, rfl, h⟩ ?_
    clear h
    rintro k0 E H ⟨x1, x2, rfl, rfl, h⟩
    cases k0 with
    | zero => cases (show (none : Option (B136)) = some _ from h)
    | succ k0 =>
      rw [laws_toByteA136_l0] at h
      refine ACode_seq ?_
      refine ACode_seq (ACode_region ?_)
      refine AOps_q 5 _ rfl rfl rfl (QOp_move _ _ rfl rfl) ?_
      refine AOps_q 6 _ rfl rfl rfl (QOp_lss _ _ _ _ _ _ _ rfl rfl rfl) ?_
      refine AOps_nil ?_
      refine ACode_cond _ rfl (fun hb3 => ?_) (fun hb3 => ?_)
      · have h := iteT hb3 h
        refine ACode_skip ?_
        refine ACode_seq ?_
        refine ACode_block ?_
        refine (ACode_region ?_)
        refine AOps_q 9 _ rfl rfl rfl (QOp_move _ _ rfl rfl) ?_
        refine AOps_q 10 _ rfl rfl rfl (QOp_move _ _ rfl rfl) ?_
        obtain ⟨hc4, h⟩ := guardO h
        refine AOps_q 11 _ rfl rfl rfl (QOp_indexAddrA_pv _ _ _ _ _ _ _ _ _ rfl Tryd.underlying22 Tryd.sizeOf5 hc4.1 hc4.2 rfl rfl) ?_
        refine AOps_q 12 _ rfl rfl rfl (QOp_load_pv _ _ _ _ _ rfl Tryd.isAgg5 rfl (by rw [Nat.zero_add]; exact byD_get _ _ (by omega))) ?_
        obtain ⟨hc5, h⟩ := guardO h
        refine AOps_q 13 _ rfl rfl rfl (QOp_indexAddrA_ptr _ _ _ _ _ _ _ _ _ _ rfl Tryd.underlying22 Tryd.sizeOf5 hc5.1 hc5.2 rfl rfl rfl rfl) ?_
        refine AOps_store1 _ _ _ _ _ _ (byD (x2.set x1.toNat (p0.get x1.toNat))) _ rfl rfl rfl rfl rfl rfl rfl Tryd.sizeOf5 (by rw [byD_length]; omega) (byD_set0 x2 x1.toNat (p0.get x1.toNat)) ?_
        refine AOps_nil ?_
        refine (ACode_region ?_)
        refine AOps_q 7 _ rfl rfl rfl (QOp_move _ _ rfl rfl) ?_
        refine AOps_q 8 _ rfl rfl rfl (QOp_add _ _ _ _ _ _ _ rfl rfl rfl) ?_
        refine AOps_q 4 _ rfl rfl rfl (QOp_assign _ _ rfl rfl) ?_
        refine AOps_nil ?_
        exact ⟨k0, _, _, Nat.lt_succ_self _, Weak_keep 0 hm [1, 2, 3, 4] [0, 1] _ _ rfl rfl rfl, _, _, rfl, rfl, h⟩
      · have h := iteF hb3 h
        refine ACode_exit ?_
        cases h
        exact Weak_keep 0 hm [2, 3] [0, 1] _ _ rfl rfl rfl
  intro E' H' hw
  refine ACode_weak hw ?_
  have h := hks6
  refine ACode_seq (ACode_region ?_)
  refine AOps_q 14 _ rfl rfl rfl (QOp_loadN_ptr _ _ _ _ _ _ _ rfl Tryd.isAgg22 Tryd.sizeOf22 rfl rfl (byD_all _) (byD_length _)) ?_
  refine AOps_store _ _ _ _ _ _ (byD _) _ _ rfl rfl rfl rfl rfl rfl rfl (byD_one _) (by rw [byD_length]; exact Tryd.sizeOf22) (by rw [byD_length, byD_length]; decide) (byD_whole _ _) ?_
  refine AOps_nil ?_
  refine ACode_ret ?_
  cases h
  exact ⟨_, _, fun r a w h => ⟨r, h⟩, _, _, [], _, (.cons (ResV_agg _ _ _ _ _ _ Tryd.isAgg22 Tryd.sizeOf22 rfl rfl (byD_take _) (byD_length _)) .nil), rfl, rfl, rfl, rfl, rfl⟩

-- loop.example/g01362/laws.toColouring
def laws_toColouring (k : Nat) (p0 : Col) : Option (Col) :=
  (laws_toByteA136 k p0.e).bind fun r1 => some (⟨(⟨(⟨p0.p, Col.zero.k, Col.zero.e⟩ : Col).p, p0.k, (⟨p0.p, Col.zero.k, Col.zero.e⟩ : Col).e⟩ : Col).p, (⟨(⟨p0.p, Col.zero.k, Col.zero.e⟩ : Col).p, p0.k, (⟨p0.p, Col.zero.k, Col.zero.e⟩ : Col).e⟩ : Col).k, r1⟩ : Col)
set_option maxRecDepth 100000 in
theorem laws_toColouring_ac (k : Nat) (p0 : Col) (r : Col) (h : laws_toColouring k p0 = some r) : AC Tryd.prog 7 [.d (.agg (colD p0))] [] (fun res H' => res = [.d (.agg (colD r))] ∧ H' = []) := by
  refine AC_of_body true Tryd.func7 rfl Tryd.ntmps7 (rvs := [.cell 2 27]) rfl rfl (fun G hG => ?_)
  have hm : G.H.length = 0 := by rw [hG]; rfl
  have hz : zeroG G.H = true := by rw [hG]; rfl
  unfold laws_toColouring at h
  refine ACode_seq (ACode_region ?_)
  refine AOps_boxI 1 _ _ (.agg (colD p0)) (colD p0) rfl (colD_one _) rfl rfl rfl rfl rfl ?_
  refine AOps_alloc 2 _ _ (colD Col.zero) (zero_of Tryd.typeInfo27 rfl) (by rfl) rfl rfl rfl rfl ?_
  refine AOps_nil ?_
  refine ACode_seq (ACode_region ?_)
  refine AOps_alloc 3 _ _ (colD Col.zero) (zero_of Tryd.typeInfo27 rfl) (by rfl) rfl rfl rfl rfl ?_
  refine AOps_nil ?_
  refine ACode_seq (ACode_region ?_)
  refine AOps_q 4 _ rfl rfl rfl (QOp_fieldAddr_pv _ _ _ _ _ 0 _ _ rfl Tryd.underlying24 rfl _ Tryd.sizeOf2 rfl rfl) ?_
  refine AOps_q 5 _ rfl rfl rfl (QOp_load_pv _ _ _ _ _ rfl Tryd.isAgg2 rfl rfl) ?_
  refine AOps_q 6 _ rfl rfl rfl (QOp_fieldAddr_ptr _ _ _ _ _ _ 0 _ _ rfl Tryd.underlying27 rfl _ Tryd.sizeOf2 rfl rfl rfl rfl) ?_
  refine AOps_store1 _ _ _ _ _ _ (colD (⟨p0.p, Col.zero.k, Col.zero.e⟩ : Col)) _ rfl rfl rfl rfl rfl rfl rfl Tryd.sizeOf2 (by rw [colD_length]; omega) (colD_set0 _ _) ?_
  refine AOps_nil ?_
  refine ACode_seq (ACode_region ?_)
  refine AOps_q 7 _ rfl rfl rfl (QOp_fieldAddr_pv _ _ _ _ _ 1 _ _ rfl Tryd.underlying24 rfl _ Tryd.sizeOf2 rfl rfl) ?_
  refine AOps_q 8 _ rfl rfl rfl (QOp_load_pv _ _ _ _ _ rfl Tryd.isAgg2 rfl rfl) ?_
  refine AOps_q 9 _ rfl rfl rfl (QOp_fieldAddr_ptr _ _ _ _ _ _ 1 _ _ rfl Tryd.underlying27 rfl _ Tryd.sizeOf2 rfl rfl rfl rfl) ?_
  refine AOps_store1 _ _ _ _ _ _ (colD (⟨(⟨p0.p, Col.zero.k, Col.zero.e⟩ : Col).p, p0.k, (⟨p0.p, Col.zero.k, Col.zero.e⟩ : Col).e⟩ : Col)) _ rfl rfl rfl rfl rfl rfl rfl Tryd.sizeOf2 (by rw [colD_length]; omega) (colD_set1 _ _) ?_
  refine AOps_nil ?_
  refine ACode_seq (ACode_region ?_)
  refine AOps_q 10 _ rfl rfl rfl (QOp_fieldAddr_pv _ _ _ _ _ 2 _ _ rfl Tryd.underlying24 rfl _ Tryd.sizeOf22 rfl rfl) ?_
  refine AOps_q 11 _ rfl rfl rfl (QOp_loadN_pv _ _ _ _ _ _ rfl Tryd.isAgg22 Tryd.sizeOf22 rfl (colD_edges _) (byD_length _)) ?_
  obtain ⟨r1, hr1, h⟩ := bindO h
  refine AOps_call [] 12 _ _ _ _ _ _ _ _ _ _ rfl rfl rfl rfl rfl rfl rfl Tryd.call19 rfl (nodupB_sound _ rfl) rfl rfl rfl (laws_toByteA136_ac k p0.e _ hr1) ?_
  rintro _ _ ⟨rfl, rfl⟩
  refine ⟨(fun _ h => nomatch h), (allc (trivial) (fun _ h => nomatch h)), AOps_as 12 (v' := .d (.agg (byD r1))) (H' := [.box (colD Col.zero), .box (colD (⟨(⟨p0.p, Col.zero.k, Col.zero.e⟩ : Col).p, p0.k, (⟨p0.p, Col.zero.k, Col.zero.e⟩ : Col).e⟩ : Col))]) rfl rfl ?_⟩
  refine AOps_q 13 _ rfl rfl rfl (QOp_fieldAddr_ptr _ _ _ _ _ _ 2 _ _ rfl Tryd.underlying27 rfl _ Tryd.sizeOf22 rfl rfl rfl rfl) ?_
  refine AOps_store _ _ _ _ _ _ (byD _) _ _ rfl rfl rfl rfl rfl rfl rfl (byD_one _) (by rw [byD_length]; exact Tryd.sizeOf22) (by rw [colD_length, byD_length]; decide) (colD_setA _ _) ?_
  refine AOps_nil ?_
  refine ACode_seq (ACode_region ?_)
  refine AOps_q 14 _ rfl rfl rfl (QOp_loadN_ptr _ _ _ _ _ _ _ rfl Tryd.isAgg27 Tryd.sizeOf27 rfl rfl (colD_all _) (colD_length _)) ?_
  refine AOps_store _ _ _ _ _ _ (colD _) _ _ rfl rfl rfl rfl rfl rfl rfl (colD_one _) (by rw [colD_length]; exact Tryd.sizeOf27) (by rw [colD_length, colD_length]; decide) (colD_whole _ _) ?_
  refine AOps_nil ?_
  refine ACode_ret ?_
  cases h
  exact ⟨_, _, fun r a w h => ⟨r, h⟩, _, _, [], _, (.cons (ResV_agg _ _ _ _ _ _ Tryd.isAgg27 Tryd.sizeOf27 rfl rfl (colD_take _) (colD_length _)) .nil), rfl, rfl, rfl, rfl, rfl⟩

-- loop.example/g01362/spec.l01In
def spec_l01In (p0 : Int) (p1 : Int) (p2 : Int) : Bool :=
  letO (if decide (p1 ≤ p0) then decide (p0 ≤ p2) else false) fun (s2 : Bool) => s2
set_option maxRecDepth 100000 in
theorem spec_l01In_ac (p0 : Int) (p1 : Int) (p2 : Int) : AC Tryd.prog 33 [iV p0, iV p1, iV p2] [] (fun res H' => res = [bV (spec_l01In p0 p1 p2)] ∧ H' = []) := by
  refine AC_of_body true Tryd.func33 rfl Tryd.ntmps33 (rvs := [.tmp 6]) rfl rfl (fun G hG => ?_)
  have hm : G.H.length = 0 := by rw [hG]; rfl
  have hz : zeroG G.H = true := by rw [hG]; rfl
  obtain ⟨r, h⟩ : ∃ r, spec_l01In p0 p1 p2 = r := ⟨_, rfl⟩
  rw [h]
  unfold spec_l01In at h
  refine ACode_seq (ACode_region ?_)
  refine AOps_q 6 _ rfl rfl rfl (QOp_assign _ _ rfl rfl) ?_
  refine AOps_nil ?_
  obtain ⟨s2, hss2, hks2⟩ := letS h
  clear h
  refine ACode_seqJ (fun E' H' => Weak 15 G E' H' [(6, bV s2)] []) ?_ ?_
  · have h := hss2
    clear hss2
    refine (ACode_region ?_)
    refine AOps_q 7 _ rfl rfl rfl (QOp_move _ _ rfl rfl) ?_
    refine AOps_q 8 _ rfl rfl rfl (QOp_move _ _ rfl rfl) ?_
    refine AOps_q 9 _ rfl rfl rfl (QOp_geq _ _ _ _ _ _ _ rfl rfl rfl) ?_
    refine AOps_q 10 _ rfl rfl rfl (QOp_move _ _ rfl rfl) ?_
    refine AOps_case 10 _ rfl (fun hb1 => ?_) (fun hb1 => ?_)
    · have h := iteT hb1 h
      refine AOps_q 11 _ rfl rfl rfl (QOp_move _ _ rfl rfl) ?_
      refine AOps_q 12 _ rfl rfl rfl (QOp_move _ _ rfl rfl) ?_
      refine AOps_q 13 _ rfl rfl rfl (QOp_leq _ _ _ _ _ _ _ rfl rfl rfl) ?_
      refine AOps_q 14 _ rfl rfl rfl (QOp_pick_t _ _ _ _ rfl rfl rfl) ?_
      refine AOps_q 6 _ rfl rfl rfl (QOp_assign _ _ rfl rfl) ?_
      refine AOps_nil ?_
      cases h
      exact Weak_keep 0 hm [6] [] _ _ rfl rfl rfl
    · have h := iteF hb1 h
      refine AOps_skip 11 rfl rfl rfl ?_
      refine AOps_skip 12 rfl rfl rfl ?_
      refine AOps_skip 13 rfl rfl rfl ?_
      refine AOps_q 14 _ rfl rfl rfl (QOp_pick_f _ _ _ _ rfl rfl rfl) ?_
      refine AOps_q 6 _ rfl rfl rfl (QOp_assign _ _ rfl rfl) ?_
      refine AOps_nil ?_
      cases h
      exact Weak_keep 0 hm [6] [] _ _ rfl rfl rfl
  intro E' H' hw
  refine ACode_weak hw ?_
  have h := hks2
  refine ACode_ret ?_
  cases h
  exact ⟨_, _, fun r a w h => ⟨r, h⟩, _, _, [], _, (.cons (ResV_tmp _ _ rfl) .nil), rfl, rfl, rfl, rfl, rfl⟩

-- loop.example/g01362/spec.l01Is
def spec_l01Is_l0 (k : Nat) (p0 : Col) : Nat → Int → Option (Sum (Unit) (Bool))
  | 0, _ => none
  | k0 + 1, x7 => (if decide (x7 < 136) then (((if decide (x7 < w64 ((w64 (p0.p * (w64 (p0.p - 1)))).tdiv 2)) then (if 0 ≤ x7 ∧ x7 < 136 then (if decide (p0.k ≤ ((p0.get x7.toNat).toNat : Int)) then some true else (if decide (w64 ((w64 (p0.p * (w64 (p0.p - 1)))).tdiv 2) ≤ x7) then (if 0 ≤ x7 ∧ x7 < 136 then some (!decide (((p0.get x7.toNat).toNat : Int) = 0)) else none) else some false)) else none) else (if decide (w64 ((w64 (p0.p * (w64 (p0.p - 1)))).tdiv 2) ≤ x7) then (if 0 ≤ x7 ∧ x7 < 136 then some (!decide (((p0.get x7.toNat).toNat : Int) = 0)) else none) else some false)) : Option (Bool)).bind fun s16 => (if s16 then (some (.inr false)).bind fun rr => some (.inr rr) else some (.inl ())) : Option (Sum (Unit) (Sum (Unit) (Bool)))).bind fun os18 => (match os18 with | .inl s18 => spec_l01Is_l0 k p0 k0 (w64 (x7 + 1)) | .inr rr => some rr) else some (.inl ()))
def spec_l01Is (k : Nat) (p0 : Col) : Option (Bool) :=
  (letO (if !(spec_l01In p0.p 1 17) then true else !(spec_l01In p0.k 1 4)) fun (s4 : Bool) => (if s4 then some (.inr false) else some (.inl ())) : Option (Sum (Unit) (Bool))).bind fun os6 => (match os6 with | .inl s6 => (spec_l01Is_l0 k p0 k 0 : Option (Sum (Unit) (Bool))).bind fun os19 => (match os19 with | .inl s19 => some true | .inr rr => some rr) | .inr rr => some rr)
set_option maxRecDepth 100000 in
theorem spec_l01Is_ac (k : Nat) (p0 : Col) (r : Bool) (h : spec_l01Is k p0 = some r) : AC Tryd.prog 17 [.d (.agg (colD p0))] [] (fun res H' => res = [bV r] ∧ H' = []) := by
  refine AC_of_body true Tryd.func17 rfl Tryd.ntmps17 (rvs := [.tmp 2]) rfl rfl (fun G hG => ?_)
  have hm : G.H.length = 0 := by rw [hG]; rfl
  have hz : zeroG G.H = true := by rw [hG]; rfl
  unfold spec_l01Is at h
  refine ACode_seq (ACode_region ?_)
  refine AOps_boxI 1 _ _ (.agg (colD p0)) (colD p0) rfl (colD_one _) rfl rfl rfl rfl rfl ?_
  refine AOps_q 2 _ rfl rfl rfl (QOp_assign _ _ rfl rfl) ?_
  refine AOps_nil ?_
  obtain ⟨os6, hss6, hks6⟩ := bindO h
  clear h
  refine ACode_seqJ (fun E' H' => ∃ s6 : Unit, os6 = .inl s6 ∧ Weak 51 G E' H' [(1, .d (.pv (colD p0) 0))] []) ?_ ?_
  · have h := hss6
    clear hss6
    obtain ⟨s4, hss4, hks4⟩ := letS h
    clear h
    refine ACode_seqJ (fun E' H' => Weak 51 G E' H' [(1, .d (.pv (colD p0) 0)), (14, bV s4)] []) ?_ ?_
    · have h := hss4
      clear hss4
      refine (ACode_region ?_)
      refine AOps_q 5 _ rfl rfl rfl (QOp_fieldAddr_pv _ _ _ _ _ 0 _ _ rfl Tryd.underlying27 rfl _ Tryd.sizeOf2 rfl rfl) ?_
      refine AOps_q 6 _ rfl rfl rfl (QOp_load_pv _ _ _ _ _ rfl Tryd.isAgg2 rfl rfl) ?_
      refine AOps_call [] 7 _ _ _ _ _ _ _ _ _ _ rfl rfl rfl rfl rfl rfl rfl Tryd.call33 rfl (nodupB_sound _ rfl) rfl rfl rfl (spec_l01In_ac p0.p 1 17) ?_
      rintro _ _ ⟨rfl, rfl⟩
      refine ⟨(fun _ h => nomatch h), (allc (trivial) (fun _ h => nomatch h)), AOps_as 7 (v' := bV (spec_l01In p0.p 1 17)) (H' := []) rfl rfl ?_⟩
      refine AOps_q 8 _ rfl rfl rfl (QOp_not _ _ _ rfl rfl) ?_
      refine AOps_q 9 _ rfl rfl rfl (QOp_move _ _ rfl rfl) ?_
      refine AOps_case 9 _ rfl (fun hb2 => ?_) (fun hb2 => ?_)
      · have h := iteT hb2 h
        refine AOps_skip 10 rfl rfl rfl ?_
        refine AOps_skip 11 rfl rfl rfl ?_
        refine AOps_skip 12 rfl rfl rfl ?_
        refine AOps_skip 13 rfl rfl rfl ?_
        refine AOps_q 14 _ rfl rfl rfl (QOp_pick_t _ _ _ _ rfl rfl rfl) ?_
        refine AOps_nil ?_
        cases h
        exact Weak_keep 0 hm [1, 14] [] _ _ rfl rfl rfl
      · have h := iteF hb2 h
        refine AOps_q 10 _ rfl rfl rfl (QOp_fieldAddr_pv _ _ _ _ _ 1 _ _ rfl Tryd.underlying27 rfl _ Tryd.sizeOf2 rfl rfl) ?_
        refine AOps_q 11 _ rfl rfl rfl (QOp_load_pv _ _ _ _ _ rfl Tryd.isAgg2 rfl rfl) ?_
        refine AOps_call [] 12 _ _ _ _ _ _ _ _ _ _ rfl rfl rfl rfl rfl rfl rfl Tryd.call33 rfl (nodupB_sound _ rfl) rfl rfl rfl (spec_l01In_ac p0.k 1 4) ?_
        rintro _ _ ⟨rfl, rfl⟩
        refine ⟨(fun _ h => nomatch h), (allc (trivial) (fun _ h => nomatch h)), AOps_as 12 (v' := bV (spec_l01In p0.k 1 4)) (H' := []) rfl rfl ?_⟩
        refine AOps_q 13 _ rfl rfl rfl (QOp_not _ _ _ rfl rfl) ?_
        refine AOps_q 14 _ rfl rfl rfl (QOp_pick_f _ _ _ _ rfl rfl rfl) ?_
        refine AOps_nil ?_
        cases h
        exact Weak_keep 0 hm [1, 14] [] _ _ rfl rfl rfl
    intro E' H' hw
    refine ACode_weak hw ?_
    have h := hks4
    refine ACode_cond _ rfl (fun hb5 => ?_) (fun hb5 => ?_)
    · have h := iteT hb5 h
      refine ACode_seq (ACode_region ?_)
      refine AOps_q 2 _ rfl rfl rfl (QOp_assign _ _ rfl rfl) ?_
      refine AOps_nil ?_
      refine ACode_ret ?_
      cases h
      have h := hks6
      cases h
      exact ⟨_, _, fun r a w h => ⟨r, h⟩, _, _, [], _, (.cons (ResV_tmp _ _ rfl) .nil), rfl, rfl, rfl, rfl, rfl⟩
    · have h := iteF hb5 h
      refine ACode_skip ?_
      cases h
      exact ⟨_, rfl, Weak_keep 0 hm [1] [] _ _ rfl rfl rfl⟩
  rintro E' H' ⟨s6, rfl, hw⟩
  refine ACode_weak hw ?_
  have h := hks6
  refine ACode_seq (ACode_region ?_)
  refine AOps_q 15 _ rfl rfl rfl (QOp_fieldAddr_pv _ _ _ _ _ 0 _ _ rfl Tryd.underlying27 rfl _ Tryd.sizeOf2 rfl rfl) ?_
  refine AOps_q 16 _ rfl rfl rfl (QOp_load_pv _ _ _ _ _ rfl Tryd.isAgg2 rfl rfl) ?_
  refine AOps_q 17 _ rfl rfl rfl (QOp_fieldAddr_pv _ _ _ _ _ 0 _ _ rfl Tryd.underlying27 rfl _ Tryd.sizeOf2 rfl rfl) ?_
  refine AOps_q 18 _ rfl rfl rfl (QOp_load_pv _ _ _ _ _ rfl Tryd.isAgg2 rfl rfl) ?_
  refine AOps_q 19 _ rfl rfl rfl (QOp_sub _ _ _ _ _ _ _ rfl rfl rfl) ?_
  refine AOps_q 20 _ rfl rfl rfl (QOp_mul _ _ _ _ _ _ _ rfl rfl rfl) ?_
  refine AOps_q 21 _ rfl rfl rfl (QOp_quo _ _ _ _ _ _ _ (by decide) rfl rfl rfl) ?_
  refine AOps_q 3 _ rfl rfl rfl (QOp_assign _ _ rfl rfl) ?_
  refine AOps_nil ?_
  obtain ⟨os19, hss19, hks19⟩ := bindO h
  clear h
  refine ACode_seqJ (fun E' H' => ∃ s19 : Unit, os19 = .inl s19 ∧ Weak 51 G E' H' [] []) ?_ ?_
  · have h := hss19
    clear hss19
    refine ACode_seq (ACode_region ?_)
    refine AOps_q 4 _ rfl rfl rfl (QOp_assign _ _ rfl rfl) ?_
    refine AOps_nil ?_
    refine ACode_block ?_
    refine ACode_loopW (fun k0 E H => ∃ (x7 : Int), E = [(1, .d (.pv (colD p0) 0)), (3, iV (w64 ((w64 (p0.p * (w64 (p0.p - 1)))).tdiv 2))), (4, iV x7)] ∧ H = [] ∧ spec_l01Is_l0 k p0 k0 x7 = some os19) k _ _ (Weak_keep 0 hm [1, 3, 4] [] _ _ rfl rfl rfl) ⟨_, rfl, rfl, h⟩ ?_
    clear h
    rintro k0 E H ⟨x7, rfl, rfl, h⟩
    cases k0 with
    | zero => cases (show (none : Option (Sum (Unit) (Bool))) = some _ from h)
    | succ k0 =>
      rw [spec_l01Is_l0] at h
      refine ACode_seq ?_
      refine ACode_seq (ACode_region ?_)
      refine AOps_q 22 _ rfl rfl rfl (QOp_move _ _ rfl rfl) ?_
      refine AOps_q 23 _ rfl rfl rfl (QOp_lss _ _ _ _ _ _ _ rfl rfl rfl) ?_
      refine AOps_nil ?_
      refine ACode_cond _ rfl (fun hb8 => ?_) (fun hb8 => ?_)
      · have h := iteT hb8 h
        refine ACode_skip ?_
        obtain ⟨os18, hss18, hks18⟩ := bindO h
        clear h
        refine ACode_seqJ (fun E' H' => ∃ s18 : Unit, os18 = .inl s18 ∧ Weak 51 G E' H' [(1, .d (.pv (colD p0) 0)), (3, iV (w64 ((w64 (p0.p * (w64 (p0.p - 1)))).tdiv 2))), (4, iV x7)] []) ?_ ?_
        · have h := hss18
          clear hss18
          refine ACode_block ?_
          obtain ⟨s16, hss16, hks16⟩ := bindO h
          clear h
          refine ACode_seqJ (fun E' H' => Weak 51 G E' H' [(1, .d (.pv (colD p0) 0)), (3, iV (w64 ((w64 (p0.p * (w64 (p0.p - 1)))).tdiv 2))), (4, iV x7), (50, bV s16)] []) ?_ ?_
          · have h := hss16
            clear hss16
            refine (ACode_quiet mixed (by kernel_rfl) ?_)
            refine AQ_q 26 _ rfl rfl rfl (QOp_move _ _ rfl rfl) ?_
            refine AQ_q 27 _ rfl rfl rfl (QOp_move _ _ rfl rfl) ?_
            refine AQ_q 28 _ rfl rfl rfl (QOp_lss _ _ _ _ _ _ _ rfl rfl rfl) ?_
            refine AQ_q 29 _ rfl rfl rfl (QOp_move _ _ rfl rfl) ?_
            refine AQ_case 29 _ rfl (fun hb9 => ?_) (fun hb9 => ?_)
            · have h := iteT hb9 h
              refine AQ_q 30 _ rfl rfl rfl (QOp_move _ _ rfl rfl) ?_
              refine AQ_q 31 _ rfl rfl rfl (QOp_fieldAddr_pv _ _ _ _ _ 2 _ _ rfl Tryd.underlying27 rfl _ Tryd.sizeOf22 rfl rfl) ?_
              obtain ⟨hc10, h⟩ := guardO h
              refine AQ_q 32 _ rfl rfl rfl (QOp_indexAddrA_pv _ _ _ _ _ _ _ _ _ rfl Tryd.underlying22 Tryd.sizeOf5 hc10.1 hc10.2 rfl rfl) ?_
              refine AQ_q 33 _ rfl rfl rfl (QOp_load_pv _ _ _ _ _ rfl Tryd.isAgg5 rfl (colD_get _ _ (by omega))) ?_
              refine AQ_q 34 _ rfl rfl rfl (QOp_fromByte _ _ _ _ _ rfl rfl Tryd.underlying2 wrap_i64_byte rfl) ?_
              refine AQ_q 35 _ rfl rfl rfl (QOp_fieldAddr_pv _ _ _ _ _ 1 _ _ rfl Tryd.underlying27 rfl _ Tryd.sizeOf2 rfl rfl) ?_
              refine AQ_q 36 _ rfl rfl rfl (QOp_load_pv _ _ _ _ _ rfl Tryd.isAgg2 rfl rfl) ?_
              refine AQ_q 37 _ rfl rfl rfl (QOp_geq _ _ _ _ _ _ _ rfl rfl rfl) ?_
              refine AQ_q 38 _ rfl rfl rfl (QOp_pick_t _ _ _ _ rfl rfl rfl) ?_
              refine AQ_q 39 _ rfl rfl rfl (QOp_move _ _ rfl rfl) ?_
              refine AQ_case 39 _ rfl (fun hb11 => ?_) (fun hb11 => ?_)
              · have h := iteT hb11 h
                refine AQ_skip 40 rfl rfl rfl ?_
                refine AQ_skip 41 rfl rfl rfl ?_
                refine AQ_skip 42 rfl rfl rfl ?_
                refine AQ_skip 43 rfl rfl rfl ?_
                refine AQ_skip 44 rfl rfl rfl ?_
                refine AQ_skip 45 rfl rfl rfl ?_
                refine AQ_skip 46 rfl rfl rfl ?_
                refine AQ_skip 47 rfl rfl rfl ?_
                refine AQ_skip 48 rfl rfl rfl ?_
                refine AQ_skip 49 rfl rfl rfl ?_
                refine AQ_q 50 _ rfl rfl rfl (QOp_pick_t _ _ _ _ rfl rfl rfl) ?_
                refine AQ_nil ?_
                cases h
                exact Weak_keep 0 hm [1, 3, 4, 50] [] _ _ rfl rfl rfl
              · have h := iteF hb11 h
                refine AQ_q 40 _ rfl rfl rfl (QOp_move _ _ rfl rfl) ?_
                refine AQ_q 41 _ rfl rfl rfl (QOp_move _ _ rfl rfl) ?_
                refine AQ_q 42 _ rfl rfl rfl (QOp_geq _ _ _ _ _ _ _ rfl rfl rfl) ?_
                refine AQ_q 43 _ rfl rfl rfl (QOp_move _ _ rfl rfl) ?_
                refine AQ_case 43 _ rfl (fun hb12 => ?_) (fun hb12 => ?_)
                · have h := iteT hb12 h
                  refine AQ_q 44 _ rfl rfl rfl (QOp_move _ _ rfl rfl) ?_
                  refine AQ_q 45 _ rfl rfl rfl (QOp_fieldAddr_pv _ _ _ _ _ 2 _ _ rfl Tryd.underlying27 rfl _ Tryd.sizeOf22 rfl rfl) ?_
                  obtain ⟨hc13, h⟩ := guardO h
                  refine AQ_q 46 _ rfl rfl rfl (QOp_indexAddrA_pv _ _ _ _ _ _ _ _ _ rfl Tryd.underlying22 Tryd.sizeOf5 hc13.1 hc13.2 rfl rfl) ?_
                  refine AQ_q 47 _ rfl rfl rfl (QOp_load_pv _ _ _ _ _ rfl Tryd.isAgg5 rfl (colD_get _ _ (by omega))) ?_
                  refine AQ_q 48 _ rfl rfl rfl (QOp_neq _ _ _ _ _ _ _ rfl rfl rfl) ?_
                  refine AQ_q 49 _ rfl rfl rfl (QOp_pick_t _ _ _ _ rfl rfl rfl) ?_
                  refine AQ_q 50 _ rfl rfl rfl (QOp_pick_f _ _ _ _ rfl rfl rfl) ?_
                  refine AQ_nil ?_
                  cases h
                  exact Weak_keep 0 hm [1, 3, 4, 50] [] _ _ rfl rfl rfl
                · have h := iteF hb12 h
                  refine AQ_skip 44 rfl rfl rfl ?_
                  refine AQ_skip 45 rfl rfl rfl ?_
                  refine AQ_skip 46 rfl rfl rfl ?_
                  refine AQ_skip 47 rfl rfl rfl ?_
                  refine AQ_skip 48 rfl rfl rfl ?_
                  refine AQ_q 49 _ rfl rfl rfl (QOp_pick_f _ _ _ _ rfl rfl rfl) ?_
                  refine AQ_q 50 _ rfl rfl rfl (QOp_pick_f _ _ _ _ rfl rfl rfl) ?_
                  refine AQ_nil ?_
                  cases h
                  exact Weak_keep 0 hm [1, 3, 4, 50] [] _ _ rfl rfl rfl
            · have h := iteF hb9 h
              refine AQ_skip 30 rfl rfl rfl ?_
              refine AQ_skip 31 rfl rfl rfl ?_
              refine AQ_skip 32 rfl rfl rfl ?_
              refine AQ_skip 33 rfl rfl rfl ?_
              refine AQ_skip 34 rfl rfl rfl ?_
              refine AQ_skip 35 rfl rfl rfl ?_
              refine AQ_skip 36 rfl rfl rfl ?_
              refine AQ_skip 37 rfl rfl rfl ?_
              refine AQ_q 38 _ rfl rfl rfl (QOp_pick_f _ _ _ _ rfl rfl rfl) ?_
              refine AQ_q 39 _ rfl rfl rfl (QOp_move _ _ rfl rfl) ?_
              refine AQ_q 40 _ rfl rfl rfl (QOp_move _ _ rfl rfl) ?_
              refine AQ_q 41 _ rfl rfl rfl (QOp_move _ _ rfl rfl) ?_
              refine AQ_q 42 _ rfl rfl rfl (QOp_geq _ _ _ _ _ _ _ rfl rfl rfl) ?_
              refine AQ_q 43 _ rfl rfl rfl (QOp_move _ _ rfl rfl) ?_
              refine AQ_case 43 _ rfl (fun hb14 => ?_) (fun hb14 => ?_)
              · have h := iteT hb14 h
                refine AQ_q 44 _ rfl rfl rfl (QOp_move _ _ rfl rfl) ?_
                refine AQ_q 45 _ rfl rfl rfl (QOp_fieldAddr_pv _ _ _ _ _ 2 _ _ rfl Tryd.underlying27 rfl _ Tryd.sizeOf22 rfl rfl) ?_
                obtain ⟨hc15, h⟩ := guardO h
                refine AQ_q 46 _ rfl rfl rfl (QOp_indexAddrA_pv _ _ _ _ _ _ _ _ _ rfl Tryd.underlying22 Tryd.sizeOf5 hc15.1 hc15.2 rfl rfl) ?_
                refine AQ_q 47 _ rfl rfl rfl (QOp_load_pv _ _ _ _ _ rfl Tryd.isAgg5 rfl (colD_get _ _ (by omega))) ?_
                refine AQ_q 48 _ rfl rfl rfl (QOp_neq _ _ _ _ _ _ _ rfl rfl rfl) ?_
                refine AQ_q 49 _ rfl rfl rfl (QOp_pick_t _ _ _ _ rfl rfl rfl) ?_
                refine AQ_q 50 _ rfl rfl rfl (QOp_pick_f _ _ _ _ rfl rfl rfl) ?_
                refine AQ_nil ?_
                cases h
                exact Weak_keep 0 hm [1, 3, 4, 50] [] _ _ rfl rfl rfl
              · have h := iteF hb14 h
                refine AQ_skip 44 rfl rfl rfl ?_
                refine AQ_skip 45 rfl rfl rfl ?_
                refine AQ_skip 46 rfl rfl rfl ?_
                refine AQ_skip 47 rfl rfl rfl ?_
                refine AQ_skip 48 rfl rfl rfl ?_
                refine AQ_q 49 _ rfl rfl rfl (QOp_pick_f _ _ _ _ rfl rfl rfl) ?_
                refine AQ_q 50 _ rfl rfl rfl (QOp_pick_f _ _ _ _ rfl rfl rfl) ?_
                refine AQ_nil ?_
                cases h
                exact Weak_keep 0 hm [1, 3, 4, 50] [] _ _ rfl rfl rfl
          intro E' H' hw
          refine ACode_weak hw ?_
          have h := hks16
          refine ACode_cond _ rfl (fun hb17 => ?_) (fun hb17 => ?_)
          · have h := iteT hb17 h
            refine ACode_seq (ACode_region ?_)
            refine AOps_q 2 _ rfl rfl rfl (QOp_assign _ _ rfl rfl) ?_
            refine AOps_nil ?_
            refine ACode_ret ?_
            obtain ⟨rr, hz20, h2⟩ := bindO h
            obtain rfl := Option.some.inj h2
            obtain rfl := Option.some.inj (show some rr = some _ from hks18)
            have h := hz20
            cases h
            have h := hks19
            cases h
            exact ⟨_, _, fun r a w h => ⟨r, h⟩, _, _, [], _, (.cons (ResV_tmp _ _ rfl) .nil), rfl, rfl, rfl, rfl, rfl⟩
          · have h := iteF hb17 h
            refine ACode_skip ?_
            cases h
            exact ⟨_, rfl, Weak_keep 0 hm [1, 3, 4] [] _ _ rfl rfl rfl⟩
        rintro E' H' ⟨s18, rfl, hw⟩
        refine ACode_weak hw ?_
        have h := hks18
        refine (ACode_region ?_)
        refine AOps_q 24 _ rfl rfl rfl (QOp_move _ _ rfl rfl) ?_
        refine AOps_q 25 _ rfl rfl rfl (QOp_add _ _ _ _ _ _ _ rfl rfl rfl) ?_
        refine AOps_q 4 _ rfl rfl rfl (QOp_assign _ _ rfl rfl) ?_
        refine AOps_nil ?_
        exact ⟨k0, _, _, Nat.lt_succ_self _, Weak_keep 0 hm [1, 3, 4] [] _ _ rfl rfl rfl, _, rfl, rfl, h⟩
      · have h := iteF hb8 h
        refine ACode_exit ?_
        cases h
        exact ⟨_, rfl, Weak_keep 0 hm [] [] _ _ rfl rfl rfl⟩
  rintro E' H' ⟨s19, rfl, hw⟩
  refine ACode_weak hw ?_
  have h := hks19
  refine ACode_seq (ACode_region ?_)
  refine AOps_q 2 _ rfl rfl rfl (QOp_assign _ _ rfl rfl) ?_
  refine AOps_nil ?_
  refine ACode_ret ?_
  cases h
  exact ⟨_, _, fun r a w h => ⟨r, h⟩, _, _, [], _, (.cons (ResV_tmp _ _ rfl) .nil), rfl, rfl, rfl, rfl, rfl⟩

-- loop.example/g01362/spec.l01Dec
def spec_l01Dec_body (self : Int → Option (ByteArray)) (k : Nat) (p0 : Int) : Option (ByteArray) :=
  (if decide (p0 < 0) then (self (w64 (0 - p0))).bind fun r2 => (if (⟨#[45]⟩ : ByteArray).size + r2.size ≤ 1099511627776 then some ((⟨#[45]⟩ : ByteArray) ++ r2) else none) else (if decide (p0 < 10) then some (⟨([toByte (w64 (48 + p0))]).toArray⟩ : ByteArray) else (self (w64 (p0.tdiv 10))).bind fun r5 => (if r5.size + (⟨([toByte (w64 (48 + (p0.tmod 10)))]).toArray⟩ : ByteArray).size ≤ 1099511627776 then some (r5 ++ (⟨([toByte (w64 (48 + (p0.tmod 10)))]).toArray⟩ : ByteArray)) else none)))
def spec_l01Dec : Nat → Int → Option (ByteArray)
  | 0, _ => none
  | k + 1, p0 => spec_l01Dec_body (spec_l01Dec k) k p0
set_option maxRecDepth 100000 in
theorem spec_l01Dec_ac (k : Nat) (p0 : Int) (r : ByteArray) (h : spec_l01Dec k p0 = some r) : AC Tryd.prog 34 [iV p0] [] (fun res H' => res = [.d (.s (.string r))] ∧ H' = []) := by
  induction k generalizing p0 r with
  | zero => simp [spec_l01Dec] at h
  | succ k ih =>
    rw [spec_l01Dec] at h
    obtain ⟨self, hself, hk⟩ : ∃ self : Int → Option (ByteArray), (∀ (p0 : Int) (r : ByteArray), self p0 = some r → AC Tryd.prog 34 [iV p0] [] (fun res H' => res = [.d (.s (.string r))] ∧ H' = [])) ∧ spec_l01Dec k = self := ⟨spec_l01Dec k, fun p0 r h => ih p0 r h, rfl⟩
    rw [hk] at h
    clear ih hk
    refine AC_of_body true Tryd.func34 rfl Tryd.ntmps34 (rvs := [.tmp 2]) rfl rfl (fun G hG => ?_)
    have hm : G.H.length = 0 := by rw [hG]; rfl
    have hz : zeroG G.H = true := by rw [hG]; rfl
    unfold spec_l01Dec_body at h
    refine ACode_seq (ACode_region ?_)
    refine AOps_q 2 _ rfl rfl rfl (QOp_assign _ _ rfl rfl) ?_
    refine AOps_nil ?_
    refine ACode_seq ?_
    refine ACode_seq (ACode_region ?_)
    refine AOps_q 3 _ rfl rfl rfl (QOp_move _ _ rfl rfl) ?_
    refine AOps_q 4 _ rfl rfl rfl (QOp_lss _ _ _ _ _ _ _ rfl rfl rfl) ?_
    refine AOps_nil ?_
    refine ACode_cond _ rfl (fun hb1 => ?_) (fun hb1 => ?_)
    · have h := iteT hb1 h
      refine ACode_seq (ACode_region ?_)
      refine AOps_q 5 _ rfl rfl rfl (QOp_move _ _ rfl rfl) ?_
      refine AOps_q 6 _ rfl rfl rfl (QOp_neg _ _ _ _ rfl rfl) ?_
      obtain ⟨r2, hr2, h⟩ := bindO h
      refine AOps_call [] 7 _ _ _ _ _ _ _ _ _ _ rfl rfl rfl rfl rfl rfl rfl Tryd.call34 rfl (nodupB_sound _ rfl) rfl rfl rfl (hself (w64 (0 - p0)) _ hr2) ?_
      rintro _ _ ⟨rfl, rfl⟩
      refine ⟨(fun _ h => nomatch h), (allc (trivial) (fun _ h => nomatch h)), AOps_as 7 (v' := .d (.s (.string r2))) (H' := []) rfl rfl ?_⟩
      obtain ⟨hc3, h⟩ := guardO h
      refine AOps_q 8 _ rfl rfl rfl (QOp_sadd _ _ _ _ _ _ rfl rfl rfl hc3) ?_
      refine AOps_q 2 _ rfl rfl rfl (QOp_assign _ _ rfl rfl) ?_
      refine AOps_nil ?_
      refine ACode_ret ?_
      cases h
      exact ⟨_, _, fun r a w h => ⟨r, h⟩, _, _, [], _, (.cons (ResV_tmp _ _ rfl) .nil), rfl, rfl, rfl, rfl, rfl⟩
    · have h := iteF hb1 h
      refine ACode_skip ?_
      refine ACode_seq ?_
      refine ACode_seq (ACode_region ?_)
      refine AOps_q 9 _ rfl rfl rfl (QOp_move _ _ rfl rfl) ?_
      refine AOps_q 10 _ rfl rfl rfl (QOp_lss _ _ _ _ _ _ _ rfl rfl rfl) ?_
      refine AOps_nil ?_
      refine ACode_cond _ rfl (fun hb4 => ?_) (fun hb4 => ?_)
      · have h := iteT hb4 h
        refine ACode_seq (ACode_region ?_)
        refine AOps_q 11 _ rfl rfl rfl (QOp_move _ _ rfl rfl) ?_
        refine AOps_q 12 _ rfl rfl rfl (QOp_add _ _ _ _ _ _ _ rfl rfl rfl) ?_
        refine AOps_q 13 _ rfl rfl rfl (QOp_toByte _ _ _ _ _ rfl rfl Tryd.underlying5 rfl) ?_
        refine AOps_buildSlice 14 _ _ _ [_] (bysD ([toByte (w64 (48 + p0))])) _ rfl rfl rfl rfl rfl (by decide) Tryd.underlying61 Tryd.sizeOf5 (zero_of Tryd.typeInfo5 rfl) rfl rfl (bysD_one _) ?_
        refine AOps_q 15 _ rfl rfl rfl (QOp_bstr _ _ _ _ _ _ _ rfl Tryd.underlying61 Tryd.underlying5 Tryd.underlying9 rfl rfl) ?_
        refine AOps_q 2 _ rfl rfl rfl (QOp_assign _ _ rfl rfl) ?_
        refine AOps_nil ?_
        refine ACode_ret ?_
        cases h
        exact ⟨_, _, fun r a w h => ⟨r, h⟩, _, _, [], _, (.cons (ResV_tmp _ _ rfl) .nil), rfl, rfl, rfl, rfl, rfl⟩
      · have h := iteF hb4 h
        refine ACode_skip ?_
        obtain ⟨r5, hr5, h⟩ := bindO h
        obtain ⟨hc6, h⟩ := guardO h
        refine ACode_seq (ACode_reg [(2, .d (.s (.string (r5 ++ (⟨([toByte (w64 (48 + (p0.tmod 10)))]).toArray⟩ : ByteArray)))))] [] ?_ ?_)
        · refine ACode_anyU mixed ?_
          refine AU_u 0 16 _ rfl (by kernel_rfl) rfl rfl rfl (UOp_move _ _ rfl rfl) ?_
          refine AU_u 1 17 _ rfl (by kernel_rfl) rfl rfl rfl (UOp_quo _ _ _ _ _ _ _ (by decide) rfl rfl rfl) ?_
          refine AU_u 3 19 _ rfl (by kernel_rfl) rfl rfl rfl (UOp_move _ _ rfl rfl) ?_
          refine AU_u 4 20 _ rfl (by kernel_rfl) rfl rfl rfl (UOp_rem _ _ _ _ _ _ _ (by decide) rfl rfl rfl) ?_
          refine AU_u 5 21 _ rfl (by kernel_rfl) rfl rfl rfl (UOp_add _ _ _ _ _ _ _ rfl rfl rfl) ?_
          refine AU_u 6 22 _ rfl (by kernel_rfl) rfl rfl rfl (UOp_toByte _ _ _ _ _ rfl rfl Tryd.underlying5 rfl) ?_
          refine AU_all [2, 7] (by kernel_rfl) rfl (allc ?_ (allc ?_ (fun _ h => nomatch h)))
          · refine US_of 2 rfl rfl ?_
            refine AOps_call [] 18 _ _ _ _ _ _ _ _ _ _ rfl rfl rfl rfl rfl rfl rfl Tryd.call34 rfl (nodupB_sound _ rfl) rfl rfl rfl (hself (w64 (p0.tdiv 10)) _ hr5) ?_
            rintro _ _ ⟨rfl, rfl⟩
            refine ⟨(fun _ h => nomatch h), (allc (trivial) (fun _ h => nomatch h)), AOps_as 18 (v' := .d (.s (.string r5))) (H' := []) rfl rfl ?_⟩
            refine AOps_nil ?_
            refine AU_all [7] (by kernel_rfl) rfl (allc ?_ (fun _ h => nomatch h))
            · refine US_of 7 rfl rfl ?_
              refine AOps_buildSlice 23 _ _ _ [_] (bysD ([toByte (w64 (48 + (p0.tmod 10)))])) _ rfl rfl rfl rfl rfl (by decide) Tryd.underlying61 Tryd.sizeOf5 (zero_of Tryd.typeInfo5 rfl) rfl rfl (bysD_one _) ?_
              refine AOps_nil ?_
              refine AU_all [8] (by kernel_rfl) rfl (allc ?_ (fun _ h => nomatch h))
              · refine US_of 8 rfl rfl ?_
                refine AOps_q 24 _ rfl rfl rfl (QOp_bstr _ _ _ _ _ _ _ rfl Tryd.underlying61 Tryd.underlying5 Tryd.underlying9 rfl rfl) ?_
                refine AOps_nil ?_
                refine AU_u 9 25 _ rfl (by kernel_rfl) rfl rfl rfl (UOp_sadd _ _ _ _ _ _ rfl rfl rfl hc6) ?_
                refine AU_u 10 2 _ rfl (by kernel_rfl) rfl rfl rfl (UOp_assign _ _ rfl rfl) ?_
                refine AU_done (by kernel_rfl) ?_
                exact ⟨rfl, Weak_keep 0 hm [2] [] _ _ rfl rfl rfl⟩
          · refine US_of 7 rfl rfl ?_
            refine AOps_buildSlice 23 _ _ _ [_] (bysD ([toByte (w64 (48 + (p0.tmod 10)))])) _ rfl rfl rfl rfl rfl (by decide) Tryd.underlying61 Tryd.sizeOf5 (zero_of Tryd.typeInfo5 rfl) rfl rfl (bysD_one _) ?_
            refine AOps_nil ?_
            refine AU_all [2, 8] (by kernel_rfl) rfl (allc ?_ (allc ?_ (fun _ h => nomatch h)))
            · refine US_of 2 rfl rfl ?_
              refine AOps_call [] 18 _ _ _ _ _ _ _ _ _ _ rfl rfl rfl rfl rfl rfl rfl Tryd.call34 rfl (nodupB_sound _ rfl) rfl rfl rfl (hself (w64 (p0.tdiv 10)) _ hr5) ?_
              rintro _ _ ⟨rfl, rfl⟩
              refine ⟨(fun _ h => nomatch h), (allc (trivial) (fun _ h => nomatch h)), AOps_as 18 (v' := .d (.s (.string r5))) (H' := [.vec 0 (bysD ([toByte (w64 (48 + (p0.tmod 10)))]))]) rfl rfl ?_⟩
              refine AOps_nil ?_
              refine AU_all [8] (by kernel_rfl) rfl (allc ?_ (fun _ h => nomatch h))
              · refine US_of 8 rfl rfl ?_
                refine AOps_q 24 _ rfl rfl rfl (QOp_bstr _ _ _ _ _ _ _ rfl Tryd.underlying61 Tryd.underlying5 Tryd.underlying9 rfl rfl) ?_
                refine AOps_nil ?_
                refine AU_u 9 25 _ rfl (by kernel_rfl) rfl rfl rfl (UOp_sadd _ _ _ _ _ _ rfl rfl rfl hc6) ?_
                refine AU_u 10 2 _ rfl (by kernel_rfl) rfl rfl rfl (UOp_assign _ _ rfl rfl) ?_
                refine AU_done (by kernel_rfl) ?_
                exact ⟨rfl, Weak_keep 0 hm [2] [] _ _ rfl rfl rfl⟩
            · refine US_of 8 rfl rfl ?_
              refine AOps_q 24 _ rfl rfl rfl (QOp_bstr _ _ _ _ _ _ _ rfl Tryd.underlying61 Tryd.underlying5 Tryd.underlying9 rfl rfl) ?_
              refine AOps_nil ?_
              refine AU_all [2] (by kernel_rfl) rfl (allc ?_ (fun _ h => nomatch h))
              · refine US_of 2 rfl rfl ?_
                refine AOps_call [] 18 _ _ _ _ _ _ _ _ _ _ rfl rfl rfl rfl rfl rfl rfl Tryd.call34 rfl (nodupB_sound _ rfl) rfl rfl rfl (hself (w64 (p0.tdiv 10)) _ hr5) ?_
                rintro _ _ ⟨rfl, rfl⟩
                refine ⟨(fun _ h => nomatch h), (allc (trivial) (fun _ h => nomatch h)), AOps_as 18 (v' := .d (.s (.string r5))) (H' := [.vec 0 (bysD ([toByte (w64 (48 + (p0.tmod 10)))]))]) rfl rfl ?_⟩
                refine AOps_nil ?_
                refine AU_u 9 25 _ rfl (by kernel_rfl) rfl rfl rfl (UOp_sadd _ _ _ _ _ _ rfl rfl rfl hc6) ?_
                refine AU_u 10 2 _ rfl (by kernel_rfl) rfl rfl rfl (UOp_assign _ _ rfl rfl) ?_
                refine AU_done (by kernel_rfl) ?_
                exact ⟨rfl, Weak_keep 0 hm [2] [] _ _ rfl rfl rfl⟩
        refine ACode_ret ?_
        cases h
        exact ⟨_, _, fun r a w h => ⟨r, h⟩, _, _, [], _, (.cons (ResV_tmp _ _ rfl) .nil), rfl, rfl, rfl, rfl, rfl⟩

-- loop.example/g01362/spec.l01Edge
def spec_l01Edge (p0 : Int) (p1 : Int) : Int :=
  (if decide (p1 < p0) then w64 ((w64 ((w64 (p0 * (w64 (p0 - 1)))).tdiv 2)) + p1) else w64 ((w64 ((w64 (p1 * (w64 (p1 - 1)))).tdiv 2)) + p0))
set_option maxRecDepth 100000 in
theorem spec_l01Edge_ac (p0 : Int) (p1 : Int) : AC Tryd.prog 49 [iV p0, iV p1] [] (fun res H' => res = [iV (spec_l01Edge p0 p1)] ∧ H' = []) := by
  refine AC_of_body true Tryd.func49 rfl Tryd.ntmps49 (rvs := [.tmp 4]) rfl rfl (fun G hG => ?_)
  have hm : G.H.length = 0 := by rw [hG]; rfl
  have hz : zeroG G.H = true := by rw [hG]; rfl
  obtain ⟨r, h⟩ : ∃ r, spec_l01Edge p0 p1 = r := ⟨_, rfl⟩
  rw [h]
  unfold spec_l01Edge at h
  refine ACode_seq (ACode_region ?_)
  refine AOps_q 4 _ rfl rfl rfl (QOp_assign _ _ rfl rfl) ?_
  refine AOps_nil ?_
  refine ACode_seq ?_
  refine ACode_seq (ACode_region ?_)
  refine AOps_q 5 _ rfl rfl rfl (QOp_move _ _ rfl rfl) ?_
  refine AOps_q 6 _ rfl rfl rfl (QOp_move _ _ rfl rfl) ?_
  refine AOps_q 7 _ rfl rfl rfl (QOp_gtr _ _ _ _ _ _ _ rfl rfl rfl) ?_
  refine AOps_nil ?_
  refine ACode_cond _ rfl (fun hb1 => ?_) (fun hb1 => ?_)
  · have h := iteT hb1 h
    refine ACode_seq (ACode_region ?_)
    refine AOps_q 8 _ rfl rfl rfl (QOp_move _ _ rfl rfl) ?_
    refine AOps_q 9 _ rfl rfl rfl (QOp_move _ _ rfl rfl) ?_
    refine AOps_q 10 _ rfl rfl rfl (QOp_sub _ _ _ _ _ _ _ rfl rfl rfl) ?_
    refine AOps_q 11 _ rfl rfl rfl (QOp_mul _ _ _ _ _ _ _ rfl rfl rfl) ?_
    refine AOps_q 12 _ rfl rfl rfl (QOp_quo _ _ _ _ _ _ _ (by decide) rfl rfl rfl) ?_
    refine AOps_q 13 _ rfl rfl rfl (QOp_move _ _ rfl rfl) ?_
    refine AOps_q 14 _ rfl rfl rfl (QOp_add _ _ _ _ _ _ _ rfl rfl rfl) ?_
    refine AOps_q 4 _ rfl rfl rfl (QOp_assign _ _ rfl rfl) ?_
    refine AOps_nil ?_
    refine ACode_ret ?_
    cases h
    exact ⟨_, _, fun r a w h => ⟨r, h⟩, _, _, [], _, (.cons (ResV_tmp _ _ rfl) .nil), rfl, rfl, rfl, rfl, rfl⟩
  · have h := iteF hb1 h
    refine ACode_skip ?_
    refine ACode_seq (ACode_region ?_)
    refine AOps_q 15 _ rfl rfl rfl (QOp_move _ _ rfl rfl) ?_
    refine AOps_q 16 _ rfl rfl rfl (QOp_move _ _ rfl rfl) ?_
    refine AOps_q 17 _ rfl rfl rfl (QOp_sub _ _ _ _ _ _ _ rfl rfl rfl) ?_
    refine AOps_q 18 _ rfl rfl rfl (QOp_mul _ _ _ _ _ _ _ rfl rfl rfl) ?_
    refine AOps_q 19 _ rfl rfl rfl (QOp_quo _ _ _ _ _ _ _ (by decide) rfl rfl rfl) ?_
    refine AOps_q 20 _ rfl rfl rfl (QOp_move _ _ rfl rfl) ?_
    refine AOps_q 21 _ rfl rfl rfl (QOp_add _ _ _ _ _ _ _ rfl rfl rfl) ?_
    refine AOps_q 4 _ rfl rfl rfl (QOp_assign _ _ rfl rfl) ?_
    refine AOps_nil ?_
    refine ACode_ret ?_
    cases h
    exact ⟨_, _, fun r a w h => ⟨r, h⟩, _, _, [], _, (.cons (ResV_tmp _ _ rfl) .nil), rfl, rfl, rfl, rfl, rfl⟩

-- loop.example/g01362/spec.l01At
def spec_l01At (p0 : Col) (p1 : Int) (p2 : Int) : Option (Int) :=
  (if 0 ≤ (spec_l01Edge p1 p2) ∧ (spec_l01Edge p1 p2) < 136 then some ((p0.get ((spec_l01Edge p1 p2).toNat)).toNat : Int) else none)
set_option maxRecDepth 100000 in
theorem spec_l01At_ac (p0 : Col) (p1 : Int) (p2 : Int) (r : Int) (h : spec_l01At p0 p1 p2 = some r) : AC Tryd.prog 35 [.d (.agg (colD p0)), iV p1, iV p2] [] (fun res H' => res = [iV r] ∧ H' = []) := by
  refine AC_of_body true Tryd.func35 rfl Tryd.ntmps35 (rvs := [.tmp 6]) rfl rfl (fun G hG => ?_)
  have hm : G.H.length = 0 := by rw [hG]; rfl
  have hz : zeroG G.H = true := by rw [hG]; rfl
  unfold spec_l01At at h
  refine ACode_seq (ACode_region ?_)
  refine AOps_boxI 3 _ _ (.agg (colD p0)) (colD p0) rfl (colD_one _) rfl rfl rfl rfl rfl ?_
  refine AOps_q 6 _ rfl rfl rfl (QOp_assign _ _ rfl rfl) ?_
  refine AOps_nil ?_
  refine ACode_seq (ACode_region ?_)
  refine AOps_q 7 _ rfl rfl rfl (QOp_move _ _ rfl rfl) ?_
  refine AOps_q 8 _ rfl rfl rfl (QOp_move _ _ rfl rfl) ?_
  refine AOps_call [] 9 _ _ _ _ _ _ _ _ _ _ rfl rfl rfl rfl rfl rfl rfl Tryd.call49 rfl (nodupB_sound _ rfl) rfl rfl rfl (spec_l01Edge_ac p1 p2) ?_
  rintro _ _ ⟨rfl, rfl⟩
  refine ⟨(fun _ h => nomatch h), (allc (trivial) (fun _ h => nomatch h)), AOps_as 9 (v' := iV (spec_l01Edge p1 p2)) (H' := []) rfl rfl ?_⟩
  refine AOps_q 10 _ rfl rfl rfl (QOp_fieldAddr_pv _ _ _ _ _ 2 _ _ rfl Tryd.underlying27 rfl _ Tryd.sizeOf22 rfl rfl) ?_
  obtain ⟨hc2, h⟩ := guardO h
  refine AOps_q 11 _ rfl rfl rfl (QOp_indexAddrA_pv _ _ _ _ _ _ _ _ _ rfl Tryd.underlying22 Tryd.sizeOf5 hc2.1 hc2.2 rfl rfl) ?_
  refine AOps_q 12 _ rfl rfl rfl (QOp_load_pv _ _ _ _ _ rfl Tryd.isAgg5 rfl (colD_get _ _ (by omega))) ?_
  refine AOps_q 13 _ rfl rfl rfl (QOp_fromByte _ _ _ _ _ rfl rfl Tryd.underlying2 wrap_i64_byte rfl) ?_
  refine AOps_q 6 _ rfl rfl rfl (QOp_assign _ _ rfl rfl) ?_
  refine AOps_nil ?_
  refine ACode_ret ?_
  cases h
  exact ⟨_, _, fun r a w h => ⟨r, h⟩, _, _, [], _, (.cons (ResV_tmp _ _ rfl) .nil), rfl, rfl, rfl, rfl, rfl⟩

-- loop.example/g01362/spec.l01Text
def spec_l01Text_l1 (k : Nat) (p0 : Col) (x7 : Int) : Nat → ByteArray → Int → Option (ByteArray)
  | 0, _, _ => none
  | k1 + 1, x12, x13 => (if decide (x13 < x7) then (spec_l01At p0 x13 x7).bind fun r15 => (spec_l01Dec k r15).bind fun r16 => (if x12.size + r16.size ≤ 1099511627776 then spec_l01Text_l1 k p0 x7 k1 (x12 ++ r16) (w64 (x13 + 1)) else none) else some x12)
def spec_l01Text_l0 (k : Nat) (p0 : Col) : Nat → ByteArray → Int → Option (ByteArray)
  | 0, _, _ => none
  | k0 + 1, x6, x7 => (if decide (x7 < p0.p) then (((if decide (1 < x7) then (if x6.size + (⟨#[44]⟩ : ByteArray).size ≤ 1099511627776 then some (x6 ++ (⟨#[44]⟩ : ByteArray)) else none) else some x6) : Option (ByteArray)).bind fun s11 => spec_l01Text_l1 k p0 x7 k s11 0 : Option (ByteArray)).bind fun s18 => spec_l01Text_l0 k p0 k0 s18 (w64 (x7 + 1)) else some x6)
def spec_l01Text (k : Nat) (p0 : Col) : Option (ByteArray) :=
  (spec_l01Dec k p0.p).bind fun r1 => (if r1.size + (⟨#[44]⟩ : ByteArray).size ≤ 1099511627776 then (spec_l01Dec k p0.k).bind fun r3 => (if (r1 ++ (⟨#[44]⟩ : ByteArray)).size + r3.size ≤ 1099511627776 then (if ((r1 ++ (⟨#[44]⟩ : ByteArray)) ++ r3).size + (⟨#[58]⟩ : ByteArray).size ≤ 1099511627776 then (spec_l01Text_l0 k p0 k (((r1 ++ (⟨#[44]⟩ : ByteArray)) ++ r3) ++ (⟨#[58]⟩ : ByteArray)) 1 : Option (ByteArray)).bind fun s19 => some s19 else none) else none) else none)
set_option maxRecDepth 100000 in
theorem spec_l01Text_ac (k : Nat) (p0 : Col) (r : ByteArray) (h : spec_l01Text k p0 = some r) : AC Tryd.prog 18 [.d (.agg (colD p0))] [] (fun res H' => res = [.d (.s (.string r))] ∧ H' = []) := by
  refine AC_of_body true Tryd.func18 rfl Tryd.ntmps18 (rvs := [.tmp 2]) rfl rfl (fun G hG => ?_)
  have hm : G.H.length = 0 := by rw [hG]; rfl
  have hz : zeroG G.H = true := by rw [hG]; rfl
  unfold spec_l01Text at h
  refine ACode_seq (ACode_region ?_)
  refine AOps_boxI 1 _ _ (.agg (colD p0)) (colD p0) rfl (colD_one _) rfl rfl rfl rfl rfl ?_
  refine AOps_q 2 _ rfl rfl rfl (QOp_assign _ _ rfl rfl) ?_
  refine AOps_nil ?_
  refine ACode_seq (ACode_quiet mixed (by kernel_rfl) ?_)
  refine AQ_q 6 _ rfl rfl rfl (QOp_fieldAddr_pv _ _ _ _ _ 0 _ _ rfl Tryd.underlying27 rfl _ Tryd.sizeOf2 rfl rfl) ?_
  refine AQ_q 7 _ rfl rfl rfl (QOp_load_pv _ _ _ _ _ rfl Tryd.isAgg2 rfl rfl) ?_
  obtain ⟨r1, hr1, h⟩ := bindO h
  refine AQ_call 8 _ _ _ _ _ _ _ _ _ rfl rfl rfl rfl rfl rfl rfl Tryd.call34 rfl rfl rfl (spec_l01Dec_ac k p0.p _ hr1) ?_
  obtain ⟨hc2, h⟩ := guardO h
  refine AQ_q 9 _ rfl rfl rfl (QOp_sadd _ _ _ _ _ _ rfl rfl rfl hc2) ?_
  refine AQ_q 10 _ rfl rfl rfl (QOp_fieldAddr_pv _ _ _ _ _ 1 _ _ rfl Tryd.underlying27 rfl _ Tryd.sizeOf2 rfl rfl) ?_
  refine AQ_q 11 _ rfl rfl rfl (QOp_load_pv _ _ _ _ _ rfl Tryd.isAgg2 rfl rfl) ?_
  obtain ⟨r3, hr3, h⟩ := bindO h
  refine AQ_call 12 _ _ _ _ _ _ _ _ _ rfl rfl rfl rfl rfl rfl rfl Tryd.call34 rfl rfl rfl (spec_l01Dec_ac k p0.k _ hr3) ?_
  obtain ⟨hc4, h⟩ := guardO h
  refine AQ_q 13 _ rfl rfl rfl (QOp_sadd _ _ _ _ _ _ rfl rfl rfl hc4) ?_
  obtain ⟨hc5, h⟩ := guardO h
  refine AQ_q 14 _ rfl rfl rfl (QOp_sadd _ _ _ _ _ _ rfl rfl rfl hc5) ?_
  refine AQ_q 3 _ rfl rfl rfl (QOp_assign _ _ rfl rfl) ?_
  refine AQ_nil ?_
  obtain ⟨s19, hss19, hks19⟩ := bindO h
  clear h
  refine ACode_seqJ (fun E' H' => Weak 38 G E' H' [(3, .d (.s (.string s19)))] []) ?_ ?_
  · have h := hss19
    clear hss19
    refine ACode_seq (ACode_region ?_)
    refine AOps_q 4 _ rfl rfl rfl (QOp_assign _ _ rfl rfl) ?_
    refine AOps_nil ?_
    refine ACode_block ?_
    refine ACode_loopW (fun k0 E H => ∃ (x6 : ByteArray) (x7 : Int), E = [(1, .d (.pv (colD p0) 0)), (3, .d (.s (.string x6))), (4, iV x7)] ∧ H = [] ∧ spec_l01Text_l0 k p0 k0 x6 x7 = some s19) k _ _ (Weak_keep 0 hm [1, 3, 4] [] _ _ rfl rfl rfl) ⟨_, _, rfl, rfl, h⟩ ?_
    clear h
    rintro k0 E H ⟨x6, x7, rfl, rfl, h⟩
    cases k0 with
    | zero => cases (show (none : Option (ByteArray)) = some _ from h)
    | succ k0 =>
      rw [spec_l01Text_l0] at h
      refine ACode_seq ?_
      refine ACode_seq (ACode_region ?_)
      refine AOps_q 15 _ rfl rfl rfl (QOp_move _ _ rfl rfl) ?_
      refine AOps_q 16 _ rfl rfl rfl (QOp_fieldAddr_pv _ _ _ _ _ 0 _ _ rfl Tryd.underlying27 rfl _ Tryd.sizeOf2 rfl rfl) ?_
      refine AOps_q 17 _ rfl rfl rfl (QOp_load_pv _ _ _ _ _ rfl Tryd.isAgg2 rfl rfl) ?_
      refine AOps_q 18 _ rfl rfl rfl (QOp_lss _ _ _ _ _ _ _ rfl rfl rfl) ?_
      refine AOps_nil ?_
      refine ACode_cond _ rfl (fun hb8 => ?_) (fun hb8 => ?_)
      · have h := iteT hb8 h
        refine ACode_skip ?_
        obtain ⟨s18, hss18, hks18⟩ := bindO h
        clear h
        refine ACode_seqJ (fun E' H' => Weak 38 G E' H' [(1, .d (.pv (colD p0) 0)), (3, .d (.s (.string s18))), (4, iV x7)] []) ?_ ?_
        · have h := hss18
          clear hss18
          refine ACode_block ?_
          obtain ⟨s11, hss11, hks11⟩ := bindO h
          clear h
          refine ACode_seqJ (fun E' H' => Weak 38 G E' H' [(1, .d (.pv (colD p0) 0)), (3, .d (.s (.string s11))), (4, iV x7)] []) ?_ ?_
          · have h := hss11
            clear hss11
            refine ACode_seq (ACode_region ?_)
            refine AOps_q 21 _ rfl rfl rfl (QOp_move _ _ rfl rfl) ?_
            refine AOps_q 22 _ rfl rfl rfl (QOp_gtr _ _ _ _ _ _ _ rfl rfl rfl) ?_
            refine AOps_nil ?_
            refine ACode_cond _ rfl (fun hb9 => ?_) (fun hb9 => ?_)
            · have h := iteT hb9 h
              refine (ACode_region ?_)
              refine AOps_q 23 _ rfl rfl rfl (QOp_move _ _ rfl rfl) ?_
              obtain ⟨hc10, h⟩ := guardO h
              refine AOps_q 24 _ rfl rfl rfl (QOp_sadd _ _ _ _ _ _ rfl rfl rfl hc10) ?_
              refine AOps_q 3 _ rfl rfl rfl (QOp_assign _ _ rfl rfl) ?_
              refine AOps_nil ?_
              cases h
              exact Weak_keep 0 hm [1, 3, 4] [] _ _ rfl rfl rfl
            · have h := iteF hb9 h
              refine ACode_skip ?_
              cases h
              exact Weak_keep 0 hm [1, 3, 4] [] _ _ rfl rfl rfl
          intro E' H' hw
          refine ACode_weak hw ?_
          have h := hks11
          refine ACode_seq (ACode_region ?_)
          refine AOps_q 5 _ rfl rfl rfl (QOp_assign _ _ rfl rfl) ?_
          refine AOps_nil ?_
          refine ACode_block ?_
          refine ACode_loopW (fun k1 E H => ∃ (x12 : ByteArray) (x13 : Int), E = [(1, .d (.pv (colD p0) 0)), (3, .d (.s (.string x12))), (4, iV x7), (5, iV x13)] ∧ H = [] ∧ spec_l01Text_l1 k p0 x7 k1 x12 x13 = some s18) k _ _ (Weak_keep 0 hm [1, 3, 4, 5] [] _ _ rfl rfl rfl) ⟨_, _, rfl, rfl, h⟩ ?_
          clear h
          rintro k1 E H ⟨x12, x13, rfl, rfl, h⟩
          cases k1 with
          | zero => cases (show (none : Option (ByteArray)) = some _ from h)
          | succ k1 =>
            rw [spec_l01Text_l1] at h
            refine ACode_seq ?_
            refine ACode_seq (ACode_region ?_)
            refine AOps_q 25 _ rfl rfl rfl (QOp_move _ _ rfl rfl) ?_
            refine AOps_q 26 _ rfl rfl rfl (QOp_move _ _ rfl rfl) ?_
            refine AOps_q 27 _ rfl rfl rfl (QOp_lss _ _ _ _ _ _ _ rfl rfl rfl) ?_
            refine AOps_nil ?_
            refine ACode_cond _ rfl (fun hb14 => ?_) (fun hb14 => ?_)
            · have h := iteT hb14 h
              refine ACode_skip ?_
              refine ACode_seq ?_
              refine ACode_block ?_
              refine (ACode_region ?_)
              refine AOps_q 30 _ rfl rfl rfl (QOp_move _ _ rfl rfl) ?_
              refine AOps_q 31 _ rfl rfl rfl (QOp_loadN_pv _ _ _ _ _ _ rfl Tryd.isAgg27 Tryd.sizeOf27 rfl (colD_all _) (colD_length _)) ?_
              refine AOps_q 32 _ rfl rfl rfl (QOp_move _ _ rfl rfl) ?_
              refine AOps_q 33 _ rfl rfl rfl (QOp_move _ _ rfl rfl) ?_
              obtain ⟨r15, hr15, h⟩ := bindO h
              refine AOps_call [] 34 _ _ _ _ _ _ _ _ _ _ rfl rfl rfl rfl rfl rfl rfl Tryd.call35 rfl (nodupB_sound _ rfl) rfl rfl rfl (spec_l01At_ac p0 x13 x7 _ hr15) ?_
              rintro _ _ ⟨rfl, rfl⟩
              refine ⟨(fun _ h => nomatch h), (allc (trivial) (fun _ h => nomatch h)), AOps_as 34 (v' := iV r15) (H' := []) rfl rfl ?_⟩
              obtain ⟨r16, hr16, h⟩ := bindO h
              refine AOps_call [] 35 _ _ _ _ _ _ _ _ _ _ rfl rfl rfl rfl rfl rfl rfl Tryd.call34 rfl (nodupB_sound _ rfl) rfl rfl rfl (spec_l01Dec_ac k r15 _ hr16) ?_
              rintro _ _ ⟨rfl, rfl⟩
              refine ⟨(fun _ h => nomatch h), (allc (trivial) (fun _ h => nomatch h)), AOps_as 35 (v' := .d (.s (.string r16))) (H' := []) rfl rfl ?_⟩
              obtain ⟨hc17, h⟩ := guardO h
              refine AOps_q 36 _ rfl rfl rfl (QOp_sadd _ _ _ _ _ _ rfl rfl rfl hc17) ?_
              refine AOps_q 3 _ rfl rfl rfl (QOp_assign _ _ rfl rfl) ?_
              refine AOps_nil ?_
              refine (ACode_region ?_)
              refine AOps_q 28 _ rfl rfl rfl (QOp_move _ _ rfl rfl) ?_
              refine AOps_q 29 _ rfl rfl rfl (QOp_add _ _ _ _ _ _ _ rfl rfl rfl) ?_
              refine AOps_q 5 _ rfl rfl rfl (QOp_assign _ _ rfl rfl) ?_
              refine AOps_nil ?_
              exact ⟨k1, _, _, Nat.lt_succ_self _, Weak_keep 0 hm [1, 3, 4, 5] [] _ _ rfl rfl rfl, _, _, rfl, rfl, h⟩
            · have h := iteF hb14 h
              refine ACode_exit ?_
              cases h
              exact Weak_keep 0 hm [1, 3, 4] [] _ _ rfl rfl rfl
        intro E' H' hw
        refine ACode_weak hw ?_
        have h := hks18
        refine (ACode_region ?_)
        refine AOps_q 19 _ rfl rfl rfl (QOp_move _ _ rfl rfl) ?_
        refine AOps_q 20 _ rfl rfl rfl (QOp_add _ _ _ _ _ _ _ rfl rfl rfl) ?_
        refine AOps_q 4 _ rfl rfl rfl (QOp_assign _ _ rfl rfl) ?_
        refine AOps_nil ?_
        exact ⟨k0, _, _, Nat.lt_succ_self _, Weak_keep 0 hm [1, 3, 4] [] _ _ rfl rfl rfl, _, _, rfl, rfl, h⟩
      · have h := iteF hb8 h
        refine ACode_exit ?_
        cases h
        exact Weak_keep 0 hm [3] [] _ _ rfl rfl rfl
  intro E' H' hw
  refine ACode_weak hw ?_
  have h := hks19
  refine ACode_seq (ACode_region ?_)
  refine AOps_q 37 _ rfl rfl rfl (QOp_move _ _ rfl rfl) ?_
  refine AOps_q 2 _ rfl rfl rfl (QOp_assign _ _ rfl rfl) ?_
  refine AOps_nil ?_
  refine ACode_ret ?_
  cases h
  exact ⟨_, _, fun r a w h => ⟨r, h⟩, _, _, [], _, (.cons (ResV_tmp _ _ rfl) .nil), rfl, rfl, rfl, rfl, rfl⟩

-- loop.example/g01362/spec.ColouringText
def spec_ColouringText (k : Nat) (p0 : Col) : Option (ByteArray × Int) :=
  (spec_l01Is k p0).bind fun r1 => (if !r1 then some ((⟨#[]⟩ : ByteArray), 1) else (spec_l01Text k p0).bind fun r3 => some (r3, 0))
set_option maxRecDepth 100000 in
theorem spec_ColouringText_ac (k : Nat) (p0 : Col) (r : ByteArray × Int) (h : spec_ColouringText k p0 = some r) : AC Tryd.prog 6 [.d (.agg (colD p0))] [] (fun res H' => res = [.d (.s (.string r.1)), iV r.2] ∧ H' = []) := by
  refine AC_of_body true Tryd.func6 rfl Tryd.ntmps6 (rvs := [.tmp 2, .tmp 3]) rfl rfl (fun G hG => ?_)
  have hm : G.H.length = 0 := by rw [hG]; rfl
  have hz : zeroG G.H = true := by rw [hG]; rfl
  unfold spec_ColouringText at h
  refine ACode_seq (ACode_region ?_)
  refine AOps_boxI 1 _ _ (.agg (colD p0)) (colD p0) rfl (colD_one _) rfl rfl rfl rfl rfl ?_
  refine AOps_q 2 _ rfl rfl rfl (QOp_assign _ _ rfl rfl) ?_
  refine AOps_q 3 _ rfl rfl rfl (QOp_assign _ _ rfl rfl) ?_
  refine AOps_nil ?_
  refine ACode_seq ?_
  refine ACode_seq (ACode_region ?_)
  refine AOps_q 4 _ rfl rfl rfl (QOp_loadN_pv _ _ _ _ _ _ rfl Tryd.isAgg27 Tryd.sizeOf27 rfl (colD_all _) (colD_length _)) ?_
  obtain ⟨r1, hr1, h⟩ := bindO h
  refine AOps_call [] 5 _ _ _ _ _ _ _ _ _ _ rfl rfl rfl rfl rfl rfl rfl Tryd.call17 rfl (nodupB_sound _ rfl) rfl rfl rfl (spec_l01Is_ac k p0 _ hr1) ?_
  rintro _ _ ⟨rfl, rfl⟩
  refine ⟨(fun _ h => nomatch h), (allc (trivial) (fun _ h => nomatch h)), AOps_as 5 (v' := bV r1) (H' := []) rfl rfl ?_⟩
  refine AOps_q 6 _ rfl rfl rfl (QOp_not _ _ _ rfl rfl) ?_
  refine AOps_nil ?_
  refine ACode_cond _ rfl (fun hb2 => ?_) (fun hb2 => ?_)
  · have h := iteT hb2 h
    refine ACode_seq (ACode_region ?_)
    refine AOps_q 2 _ rfl rfl rfl (QOp_assign _ _ rfl rfl) ?_
    refine AOps_q 3 _ rfl rfl rfl (QOp_assign _ _ rfl rfl) ?_
    refine AOps_nil ?_
    refine ACode_ret ?_
    cases h
    exact ⟨_, _, fun r a w h => ⟨r, h⟩, _, _, [], _, (.cons (ResV_tmp _ _ rfl) (.cons (ResV_tmp _ _ rfl) .nil)), rfl, rfl, rfl, rfl, rfl⟩
  · have h := iteF hb2 h
    refine ACode_skip ?_
    refine ACode_seq (ACode_region ?_)
    refine AOps_q 7 _ rfl rfl rfl (QOp_loadN_pv _ _ _ _ _ _ rfl Tryd.isAgg27 Tryd.sizeOf27 rfl (colD_all _) (colD_length _)) ?_
    obtain ⟨r3, hr3, h⟩ := bindO h
    refine AOps_call [] 8 _ _ _ _ _ _ _ _ _ _ rfl rfl rfl rfl rfl rfl rfl Tryd.call18 rfl (nodupB_sound _ rfl) rfl rfl rfl (spec_l01Text_ac k p0 _ hr3) ?_
    rintro _ _ ⟨rfl, rfl⟩
    refine ⟨(fun _ h => nomatch h), (allc (trivial) (fun _ h => nomatch h)), AOps_as 8 (v' := .d (.s (.string r3))) (H' := []) rfl rfl ?_⟩
    refine AOps_q 2 _ rfl rfl rfl (QOp_assign _ _ rfl rfl) ?_
    refine AOps_q 3 _ rfl rfl rfl (QOp_assign _ _ rfl rfl) ?_
    refine AOps_nil ?_
    refine ACode_ret ?_
    cases h
    exact ⟨_, _, fun r a w h => ⟨r, h⟩, _, _, [], _, (.cons (ResV_tmp _ _ rfl) (.cons (ResV_tmp _ _ rfl) .nil)), rfl, rfl, rfl, rfl, rfl⟩

-- loop.example/g01362/impl.in
def impl_in (p0 : Int) (p1 : Int) (p2 : Int) : Bool :=
  letO (if decide (p1 ≤ p0) then decide (p0 ≤ p2) else false) fun (s2 : Bool) => s2
set_option maxRecDepth 100000 in
theorem impl_in_ac (p0 : Int) (p1 : Int) (p2 : Int) : AC Tryd.prog 50 [iV p0, iV p1, iV p2] [] (fun res H' => res = [bV (impl_in p0 p1 p2)] ∧ H' = []) := by
  refine AC_of_body true Tryd.func50 rfl Tryd.ntmps50 (rvs := [.tmp 6]) rfl rfl (fun G hG => ?_)
  have hm : G.H.length = 0 := by rw [hG]; rfl
  have hz : zeroG G.H = true := by rw [hG]; rfl
  obtain ⟨r, h⟩ : ∃ r, impl_in p0 p1 p2 = r := ⟨_, rfl⟩
  rw [h]
  unfold impl_in at h
  refine ACode_seq (ACode_region ?_)
  refine AOps_q 6 _ rfl rfl rfl (QOp_assign _ _ rfl rfl) ?_
  refine AOps_nil ?_
  obtain ⟨s2, hss2, hks2⟩ := letS h
  clear h
  refine ACode_seqJ (fun E' H' => Weak 15 G E' H' [(6, bV s2)] []) ?_ ?_
  · have h := hss2
    clear hss2
    refine (ACode_region ?_)
    refine AOps_q 7 _ rfl rfl rfl (QOp_move _ _ rfl rfl) ?_
    refine AOps_q 8 _ rfl rfl rfl (QOp_move _ _ rfl rfl) ?_
    refine AOps_q 9 _ rfl rfl rfl (QOp_geq _ _ _ _ _ _ _ rfl rfl rfl) ?_
    refine AOps_q 10 _ rfl rfl rfl (QOp_move _ _ rfl rfl) ?_
    refine AOps_case 10 _ rfl (fun hb1 => ?_) (fun hb1 => ?_)
    · have h := iteT hb1 h
      refine AOps_q 11 _ rfl rfl rfl (QOp_move _ _ rfl rfl) ?_
      refine AOps_q 12 _ rfl rfl rfl (QOp_move _ _ rfl rfl) ?_
      refine AOps_q 13 _ rfl rfl rfl (QOp_leq _ _ _ _ _ _ _ rfl rfl rfl) ?_
      refine AOps_q 14 _ rfl rfl rfl (QOp_pick_t _ _ _ _ rfl rfl rfl) ?_
      refine AOps_q 6 _ rfl rfl rfl (QOp_assign _ _ rfl rfl) ?_
      refine AOps_nil ?_
      cases h
      exact Weak_keep 0 hm [6] [] _ _ rfl rfl rfl
    · have h := iteF hb1 h
      refine AOps_skip 11 rfl rfl rfl ?_
      refine AOps_skip 12 rfl rfl rfl ?_
      refine AOps_skip 13 rfl rfl rfl ?_
      refine AOps_q 14 _ rfl rfl rfl (QOp_pick_f _ _ _ _ rfl rfl rfl) ?_
      refine AOps_q 6 _ rfl rfl rfl (QOp_assign _ _ rfl rfl) ?_
      refine AOps_nil ?_
      cases h
      exact Weak_keep 0 hm [6] [] _ _ rfl rfl rfl
  intro E' H' hw
  refine ACode_weak hw ?_
  have h := hks2
  refine ACode_ret ?_
  cases h
  exact ⟨_, _, fun r a w h => ⟨r, h⟩, _, _, [], _, (.cons (ResV_tmp _ _ rfl) .nil), rfl, rfl, rfl, rfl, rfl⟩

-- (*loop.example/g01362/impl.Colouring).edges
def impl_Colouring_edges (p0 : Col) : Int :=
  w64 ((w64 (p0.p * (w64 (p0.p - 1)))).tdiv 2)
set_option maxRecDepth 100000 in
theorem impl_Colouring_edges_ac (p0 : Col) : AC Tryd.prog 51 [.d (.pv (colD p0) 0)] [] (fun res H' => res = [iV (impl_Colouring_edges p0)] ∧ H' = []) := by
  refine AC_of_body true Tryd.func51 rfl Tryd.ntmps51 (rvs := [.tmp 2]) rfl rfl (fun G hG => ?_)
  have hm : G.H.length = 0 := by rw [hG]; rfl
  have hz : zeroG G.H = true := by rw [hG]; rfl
  obtain ⟨r, h⟩ : ∃ r, impl_Colouring_edges p0 = r := ⟨_, rfl⟩
  rw [h]
  unfold impl_Colouring_edges at h
  refine ACode_seq (ACode_region ?_)
  refine AOps_q 2 _ rfl rfl rfl (QOp_assign _ _ rfl rfl) ?_
  refine AOps_nil ?_
  refine ACode_seq (ACode_quiet mixed (by kernel_rfl) ?_)
  refine AQ_q 3 _ rfl rfl rfl (QOp_move _ _ rfl rfl) ?_
  refine AQ_q 4 _ rfl rfl rfl (QOp_nilCheck_pv _ _ _ rfl rfl) ?_
  refine AQ_q 5 _ rfl rfl rfl (QOp_fieldAddr_pv _ _ _ _ _ 0 _ _ rfl Tryd.underlying27 rfl _ Tryd.sizeOf2 rfl rfl) ?_
  refine AQ_q 6 _ rfl rfl rfl (QOp_load_pv _ _ _ _ _ rfl Tryd.isAgg2 rfl rfl) ?_
  refine AQ_q 7 _ rfl rfl rfl (QOp_move _ _ rfl rfl) ?_
  refine AQ_q 8 _ rfl rfl rfl (QOp_nilCheck_pv _ _ _ rfl rfl) ?_
  refine AQ_q 9 _ rfl rfl rfl (QOp_fieldAddr_pv _ _ _ _ _ 0 _ _ rfl Tryd.underlying27 rfl _ Tryd.sizeOf2 rfl rfl) ?_
  refine AQ_q 10 _ rfl rfl rfl (QOp_load_pv _ _ _ _ _ rfl Tryd.isAgg2 rfl rfl) ?_
  refine AQ_q 11 _ rfl rfl rfl (QOp_sub _ _ _ _ _ _ _ rfl rfl rfl) ?_
  refine AQ_q 12 _ rfl rfl rfl (QOp_mul _ _ _ _ _ _ _ rfl rfl rfl) ?_
  refine AQ_q 13 _ rfl rfl rfl (QOp_quo _ _ _ _ _ _ _ (by decide) rfl rfl rfl) ?_
  refine AQ_q 2 _ rfl rfl rfl (QOp_assign _ _ rfl rfl) ?_
  refine AQ_nil ?_
  refine ACode_ret ?_
  cases h
  exact ⟨_, _, fun r a w h => ⟨r, h⟩, _, _, [], _, (.cons (ResV_tmp _ _ rfl) .nil), rfl, rfl, rfl, rfl, rfl⟩

-- (*loop.example/g01362/impl.Colouring).isColouring
def impl_Colouring_isColouring_l0 (k : Nat) (p0 : Col) : Nat → Int → Option (Sum (Unit) (Bool))
  | 0, _ => none
  | k0 + 1, x7 => (if decide (x7 < 136) then ((if 0 ≤ x7 ∧ x7 < 136 then letO (if decide (p0.k ≤ ((p0.e.get x7.toNat).toNat : Int)) then true else (if decide ((impl_Colouring_edges p0) ≤ x7) then !decide (((p0.e.get x7.toNat).toNat : Int) = 0) else false)) fun (s13 : Bool) => (if s13 then (some (.inr false)).bind fun rr => some (.inr rr) else some (.inl ())) else none) : Option (Sum (Unit) (Sum (Unit) (Bool)))).bind fun os15 => (match os15 with | .inl s15 => impl_Colouring_isColouring_l0 k p0 k0 (w64 (x7 + 1)) | .inr rr => some rr) else some (.inl ()))
def impl_Colouring_isColouring (k : Nat) (p0 : Col) : Option (Bool) :=
  (letO (if !(impl_in p0.p 1 17) then true else !(impl_in p0.k 1 4)) fun (s4 : Bool) => (if s4 then some (.inr false) else some (.inl ())) : Option (Sum (Unit) (Bool))).bind fun os6 => (match os6 with | .inl s6 => (impl_Colouring_isColouring_l0 k p0 k 0 : Option (Sum (Unit) (Bool))).bind fun os16 => (match os16 with | .inl s16 => some true | .inr rr => some rr) | .inr rr => some rr)
set_option maxRecDepth 100000 in
theorem impl_Colouring_isColouring_ac (k : Nat) (p0 : Col) (r : Bool) (h : impl_Colouring_isColouring k p0 = some r) : AC Tryd.prog 36 [.d (.pv (colD p0) 0)] [] (fun res H' => res = [bV r] ∧ H' = []) := by
  refine AC_of_body true Tryd.func36 rfl Tryd.ntmps36 (rvs := [.tmp 2]) rfl rfl (fun G hG => ?_)
  have hm : G.H.length = 0 := by rw [hG]; rfl
  have hz : zeroG G.H = true := by rw [hG]; rfl
  unfold impl_Colouring_isColouring at h
  refine ACode_seq (ACode_region ?_)
  refine AOps_q 2 _ rfl rfl rfl (QOp_assign _ _ rfl rfl) ?_
  refine AOps_nil ?_
  obtain ⟨os6, hss6, hks6⟩ := bindO h
  clear h
  refine ACode_seqJ (fun E' H' => ∃ s6 : Unit, os6 = .inl s6 ∧ Weak 45 G E' H' [(0, .d (.pv (colD p0) 0))] []) ?_ ?_
  · have h := hss6
    clear hss6
    obtain ⟨s4, hss4, hks4⟩ := letS h
    clear h
    refine ACode_seqJ (fun E' H' => Weak 45 G E' H' [(0, .d (.pv (colD p0) 0)), (18, bV s4)] []) ?_ ?_
    · have h := hss4
      clear hss4
      refine (ACode_region ?_)
      refine AOps_q 5 _ rfl rfl rfl (QOp_move _ _ rfl rfl) ?_
      refine AOps_q 6 _ rfl rfl rfl (QOp_nilCheck_pv _ _ _ rfl rfl) ?_
      refine AOps_q 7 _ rfl rfl rfl (QOp_fieldAddr_pv _ _ _ _ _ 0 _ _ rfl Tryd.underlying27 rfl _ Tryd.sizeOf2 rfl rfl) ?_
      refine AOps_q 8 _ rfl rfl rfl (QOp_load_pv _ _ _ _ _ rfl Tryd.isAgg2 rfl rfl) ?_
      refine AOps_call [] 9 _ _ _ _ _ _ _ _ _ _ rfl rfl rfl rfl rfl rfl rfl Tryd.call50 rfl (nodupB_sound _ rfl) rfl rfl rfl (impl_in_ac p0.p 1 17) ?_
      rintro _ _ ⟨rfl, rfl⟩
      refine ⟨(fun _ h => nomatch h), (allc (trivial) (fun _ h => nomatch h)), AOps_as 9 (v' := bV (impl_in p0.p 1 17)) (H' := []) rfl rfl ?_⟩
      refine AOps_q 10 _ rfl rfl rfl (QOp_not _ _ _ rfl rfl) ?_
      refine AOps_q 11 _ rfl rfl rfl (QOp_move _ _ rfl rfl) ?_
      refine AOps_case 11 _ rfl (fun hb2 => ?_) (fun hb2 => ?_)
      · have h := iteT hb2 h
        refine AOps_skip 12 rfl rfl rfl ?_
        refine AOps_skip 13 rfl rfl rfl ?_
        refine AOps_skip 14 rfl rfl rfl ?_
        refine AOps_skip 15 rfl rfl rfl ?_
        refine AOps_skip 16 rfl rfl rfl ?_
        refine AOps_skip 17 rfl rfl rfl ?_
        refine AOps_q 18 _ rfl rfl rfl (QOp_pick_t _ _ _ _ rfl rfl rfl) ?_
        refine AOps_nil ?_
        cases h
        exact Weak_keep 0 hm [0, 18] [] _ _ rfl rfl rfl
      · have h := iteF hb2 h
        refine AOps_q 12 _ rfl rfl rfl (QOp_move _ _ rfl rfl) ?_
        refine AOps_q 13 _ rfl rfl rfl (QOp_nilCheck_pv _ _ _ rfl rfl) ?_
        refine AOps_q 14 _ rfl rfl rfl (QOp_fieldAddr_pv _ _ _ _ _ 1 _ _ rfl Tryd.underlying27 rfl _ Tryd.sizeOf2 rfl rfl) ?_
        refine AOps_q 15 _ rfl rfl rfl (QOp_load_pv _ _ _ _ _ rfl Tryd.isAgg2 rfl rfl) ?_
        refine AOps_call [] 16 _ _ _ _ _ _ _ _ _ _ rfl rfl rfl rfl rfl rfl rfl Tryd.call50 rfl (nodupB_sound _ rfl) rfl rfl rfl (impl_in_ac p0.k 1 4) ?_
        rintro _ _ ⟨rfl, rfl⟩
        refine ⟨(fun _ h => nomatch h), (allc (trivial) (fun _ h => nomatch h)), AOps_as 16 (v' := bV (impl_in p0.k 1 4)) (H' := []) rfl rfl ?_⟩
        refine AOps_q 17 _ rfl rfl rfl (QOp_not _ _ _ rfl rfl) ?_
        refine AOps_q 18 _ rfl rfl rfl (QOp_pick_f _ _ _ _ rfl rfl rfl) ?_
        refine AOps_nil ?_
        cases h
        exact Weak_keep 0 hm [0, 18] [] _ _ rfl rfl rfl
    intro E' H' hw
    refine ACode_weak hw ?_
    have h := hks4
    refine ACode_cond _ rfl (fun hb5 => ?_) (fun hb5 => ?_)
    · have h := iteT hb5 h
      refine ACode_seq (ACode_region ?_)
      refine AOps_q 2 _ rfl rfl rfl (QOp_assign _ _ rfl rfl) ?_
      refine AOps_nil ?_
      refine ACode_ret ?_
      cases h
      have h := hks6
      cases h
      exact ⟨_, _, fun r a w h => ⟨r, h⟩, _, _, [], _, (.cons (ResV_tmp _ _ rfl) .nil), rfl, rfl, rfl, rfl, rfl⟩
    · have h := iteF hb5 h
      refine ACode_skip ?_
      cases h
      exact ⟨_, rfl, Weak_keep 0 hm [0] [] _ _ rfl rfl rfl⟩
  rintro E' H' ⟨s6, rfl, hw⟩
  refine ACode_weak hw ?_
  have h := hks6
  obtain ⟨os16, hss16, hks16⟩ := bindO h
  clear h
  refine ACode_seqJ (fun E' H' => ∃ s16 : Unit, os16 = .inl s16 ∧ Weak 45 G E' H' [] []) ?_ ?_
  · have h := hss16
    clear hss16
    refine ACode_seq (ACode_region ?_)
    refine AOps_q 19 _ rfl rfl rfl (QOp_move _ _ rfl rfl) ?_
    refine AOps_q 20 _ rfl rfl rfl (QOp_nilCheck_pv _ _ _ rfl rfl) ?_
    refine AOps_q 21 _ rfl rfl rfl (QOp_fieldAddr_pv _ _ _ _ _ 2 _ _ rfl Tryd.underlying27 rfl _ Tryd.sizeOf22 rfl rfl) ?_
    refine AOps_q 22 _ rfl rfl rfl (QOp_loadN_pv _ _ _ _ _ _ rfl Tryd.isAgg22 Tryd.sizeOf22 rfl (colD_edges _) (byD_length _)) ?_
    refine AOps_q 23 _ rfl rfl rfl (QOp_move _ _ rfl rfl) ?_
    refine AOps_nil ?_
    refine ACode_block ?_
    refine ACode_loopW (fun k0 E H => ∃ (x7 : Int), E = [(0, .d (.pv (colD p0) 0)), (22, .d (.agg (byD p0.e))), (23, iV x7)] ∧ H = [] ∧ impl_Colouring_isColouring_l0 k p0 k0 x7 = some os16) k _ _ (Weak_keep 0 hm [0, 22, 23] [] _ _ rfl rfl rfl) ⟨_, rfl, rfl, h⟩ ?_
    clear h
    rintro k0 E H ⟨x7, rfl, rfl, h⟩
    cases k0 with
    | zero => cases (show (none : Option (Sum (Unit) (Bool))) = some _ from h)
    | succ k0 =>
      rw [impl_Colouring_isColouring_l0] at h
      refine ACode_seq (ACode_region ?_)
      refine AOps_q 24 _ rfl rfl rfl (QOp_lss _ _ _ _ _ _ _ rfl rfl rfl) ?_
      refine AOps_nil ?_
      refine ACode_seq ?_
      refine ACode_cond _ rfl (fun hb8 => ?_) (fun hb8 => ?_)
      · have h := iteT hb8 h
        refine ACode_skip ?_
        obtain ⟨os15, hss15, hks15⟩ := bindO h
        clear h
        refine ACode_seqJ (fun E' H' => ∃ s15 : Unit, os15 = .inl s15 ∧ Weak 45 G E' H' [(0, .d (.pv (colD p0) 0)), (22, .d (.agg (byD p0.e))), (23, iV x7)] []) ?_ ?_
        · have h := hss15
          clear hss15
          refine ACode_block ?_
          refine ACode_seq (ACode_region ?_)
          refine AOps_q 25 _ rfl rfl rfl (QOp_move _ _ rfl rfl) ?_
          obtain ⟨hc9, h⟩ := guardO h
          refine AOps_q 26 _ rfl rfl rfl (QOp_index_agg _ _ _ _ _ _ _ _ _ rfl Tryd.underlying22 Tryd.sizeOf5 Tryd.isAgg5 hc9.1 hc9.2 rfl rfl (byD_get _ _ (by omega))) ?_
          refine AOps_q 3 _ rfl rfl rfl (QOp_assign _ _ rfl rfl) ?_
          refine AOps_q 4 _ rfl rfl rfl (QOp_assign _ _ rfl rfl) ?_
          refine AOps_nil ?_
          obtain ⟨s13, hss13, hks13⟩ := letS h
          clear h
          refine ACode_seqJ (fun E' H' => Weak 45 G E' H' [(0, .d (.pv (colD p0) 0)), (22, .d (.agg (byD p0.e))), (23, iV x7), (43, bV s13)] []) ?_ ?_
          · have h := hss13
            clear hss13
            refine (ACode_region ?_)
            refine AOps_q 27 _ rfl rfl rfl (QOp_move _ _ rfl rfl) ?_
            refine AOps_q 28 _ rfl rfl rfl (QOp_fromByte _ _ _ _ _ rfl rfl Tryd.underlying2 wrap_i64_byte rfl) ?_
            refine AOps_q 29 _ rfl rfl rfl (QOp_move _ _ rfl rfl) ?_
            refine AOps_q 30 _ rfl rfl rfl (QOp_nilCheck_pv _ _ _ rfl rfl) ?_
            refine AOps_q 31 _ rfl rfl rfl (QOp_fieldAddr_pv _ _ _ _ _ 1 _ _ rfl Tryd.underlying27 rfl _ Tryd.sizeOf2 rfl rfl) ?_
            refine AOps_q 32 _ rfl rfl rfl (QOp_load_pv _ _ _ _ _ rfl Tryd.isAgg2 rfl rfl) ?_
            refine AOps_q 33 _ rfl rfl rfl (QOp_geq _ _ _ _ _ _ _ rfl rfl rfl) ?_
            refine AOps_q 34 _ rfl rfl rfl (QOp_move _ _ rfl rfl) ?_
            refine AOps_case 34 _ rfl (fun hb10 => ?_) (fun hb10 => ?_)
            · have h := iteT hb10 h
              refine AOps_skip 35 rfl rfl rfl ?_
              refine AOps_skip 36 rfl rfl rfl ?_
              refine AOps_skip 37 rfl rfl rfl ?_
              refine AOps_skip 38 rfl rfl rfl ?_
              refine AOps_skip 39 rfl rfl rfl ?_
              refine AOps_skip 40 rfl rfl rfl ?_
              refine AOps_skip 41 rfl rfl rfl ?_
              refine AOps_skip 42 rfl rfl rfl ?_
              refine AOps_q 43 _ rfl rfl rfl (QOp_pick_t _ _ _ _ rfl rfl rfl) ?_
              refine AOps_nil ?_
              cases h
              exact Weak_keep 0 hm [0, 22, 23, 43] [] _ _ rfl rfl rfl
            · have h := iteF hb10 h
              refine AOps_q 35 _ rfl rfl rfl (QOp_move _ _ rfl rfl) ?_
              refine AOps_q 36 _ rfl rfl rfl (QOp_move _ _ rfl rfl) ?_
              refine AOps_call [] 37 _ _ _ _ _ _ _ _ _ _ rfl rfl rfl rfl rfl rfl rfl Tryd.call51 rfl (nodupB_sound _ rfl) rfl rfl rfl (impl_Colouring_edges_ac p0) ?_
              rintro _ _ ⟨rfl, rfl⟩
              refine ⟨(fun _ h => nomatch h), (allc (trivial) (fun _ h => nomatch h)), AOps_as 37 (v' := iV (impl_Colouring_edges p0)) (H' := []) rfl rfl ?_⟩
              refine AOps_q 38 _ rfl rfl rfl (QOp_geq _ _ _ _ _ _ _ rfl rfl rfl) ?_
              refine AOps_q 39 _ rfl rfl rfl (QOp_move _ _ rfl rfl) ?_
              refine AOps_case 39 _ rfl (fun hb12 => ?_) (fun hb12 => ?_)
              · have h := iteT hb12 h
                refine AOps_q 40 _ rfl rfl rfl (QOp_move _ _ rfl rfl) ?_
                refine AOps_q 41 _ rfl rfl rfl (QOp_neq _ _ _ _ _ _ _ rfl rfl rfl) ?_
                refine AOps_q 42 _ rfl rfl rfl (QOp_pick_t _ _ _ _ rfl rfl rfl) ?_
                refine AOps_q 43 _ rfl rfl rfl (QOp_pick_f _ _ _ _ rfl rfl rfl) ?_
                refine AOps_nil ?_
                cases h
                exact Weak_keep 0 hm [0, 22, 23, 43] [] _ _ rfl rfl rfl
              · have h := iteF hb12 h
                refine AOps_skip 40 rfl rfl rfl ?_
                refine AOps_skip 41 rfl rfl rfl ?_
                refine AOps_q 42 _ rfl rfl rfl (QOp_pick_f _ _ _ _ rfl rfl rfl) ?_
                refine AOps_q 43 _ rfl rfl rfl (QOp_pick_f _ _ _ _ rfl rfl rfl) ?_
                refine AOps_nil ?_
                cases h
                exact Weak_keep 0 hm [0, 22, 23, 43] [] _ _ rfl rfl rfl
          intro E' H' hw
          refine ACode_weak hw ?_
          have h := hks13
          refine ACode_cond _ rfl (fun hb14 => ?_) (fun hb14 => ?_)
          · have h := iteT hb14 h
            refine ACode_seq (ACode_region ?_)
            refine AOps_q 2 _ rfl rfl rfl (QOp_assign _ _ rfl rfl) ?_
            refine AOps_nil ?_
            refine ACode_ret ?_
            obtain ⟨rr, hz17, h2⟩ := bindO h
            obtain rfl := Option.some.inj h2
            obtain rfl := Option.some.inj (show some rr = some _ from hks15)
            have h := hz17
            cases h
            have h := hks16
            cases h
            exact ⟨_, _, fun r a w h => ⟨r, h⟩, _, _, [], _, (.cons (ResV_tmp _ _ rfl) .nil), rfl, rfl, rfl, rfl, rfl⟩
          · have h := iteF hb14 h
            refine ACode_skip ?_
            cases h
            exact ⟨_, rfl, Weak_keep 0 hm [0, 22, 23] [] _ _ rfl rfl rfl⟩
        rintro E' H' ⟨s15, rfl, hw⟩
        refine ACode_weak hw ?_
        have h := hks15
        refine (ACode_region ?_)
        refine AOps_q 44 _ rfl rfl rfl (QOp_add _ _ _ _ _ _ _ rfl rfl rfl) ?_
        refine AOps_q 23 _ rfl rfl rfl (QOp_move _ _ rfl rfl) ?_
        refine AOps_nil ?_
        exact ⟨k0, _, _, Nat.lt_succ_self _, Weak_keep 0 hm [0, 22, 23] [] _ _ rfl rfl rfl, _, rfl, rfl, h⟩
      · have h := iteF hb8 h
        refine ACode_exit ?_
        cases h
        exact ⟨_, rfl, Weak_keep 0 hm [] [] _ _ rfl rfl rfl⟩
  rintro E' H' ⟨s16, rfl, hw⟩
  refine ACode_weak hw ?_
  have h := hks16
  refine ACode_seq (ACode_region ?_)
  refine AOps_q 2 _ rfl rfl rfl (QOp_assign _ _ rfl rfl) ?_
  refine AOps_nil ?_
  refine ACode_ret ?_
  cases h
  exact ⟨_, _, fun r a w h => ⟨r, h⟩, _, _, [], _, (.cons (ResV_tmp _ _ rfl) .nil), rfl, rfl, rfl, rfl, rfl⟩

-- (*loop.example/g01362/impl.Colouring).code
def impl_Colouring_code (k : Nat) (p0 : Col) (p1 : Option (Bool)) : Option (Int) :=
  (impl_Colouring_isColouring k p0).bind fun r1 => (if !r1 then some 1 else (p1).bind fun r3 => (if !r3 then some 2 else some 0))
set_option maxRecDepth 100000 in
theorem impl_Colouring_code_ac (k : Nat) (p0 : Col) (p1 : Option (Bool)) (g_p1 : FuncId) (c_p1 : List D) (hg_p1 : ∀ args w, (callFunc g_p1 args).run Tryd.prog w = .ok (.enter g_p1 args) w) (hf_p1 : ∀ (r : Bool), p1 = some r → AC Tryd.prog g_p1 ([] ++ c_p1.map AV.d) [] (fun res H' => res = [bV r] ∧ H' = [])) (r : Int) (h : impl_Colouring_code k p0 p1 = some r) : AC Tryd.prog 20 [.d (.pv (colD p0) 0), .d (.clo g_p1 c_p1)] [] (fun res H' => res = [iV r] ∧ H' = []) := by
  refine AC_of_body true Tryd.func20 rfl Tryd.ntmps20 (rvs := [.tmp 4]) rfl rfl (fun G hG => ?_)
  have hm : G.H.length = 0 := by rw [hG]; rfl
  have hz : zeroG G.H = true := by rw [hG]; rfl
  unfold impl_Colouring_code at h
  refine ACode_seq (ACode_region ?_)
  refine AOps_q 4 _ rfl rfl rfl (QOp_assign _ _ rfl rfl) ?_
  refine AOps_nil ?_
  refine ACode_seq ?_
  refine ACode_block ?_
  refine ACode_seq (ACode_region ?_)
  refine AOps_q 6 _ rfl rfl rfl (QOp_move _ _ rfl rfl) ?_
  obtain ⟨r1, hr1, h⟩ := bindO h
  refine AOps_call [] 7 _ _ _ _ _ _ _ _ _ _ rfl rfl rfl rfl rfl rfl rfl Tryd.call36 rfl (nodupB_sound _ rfl) rfl rfl rfl (impl_Colouring_isColouring_ac k p0 _ hr1) ?_
  rintro _ _ ⟨rfl, rfl⟩
  refine ⟨(fun _ h => nomatch h), (allc (trivial) (fun _ h => nomatch h)), AOps_as 7 (v' := bV r1) (H' := []) rfl rfl ?_⟩
  refine AOps_q 8 _ rfl rfl rfl (QOp_not _ _ _ rfl rfl) ?_
  refine AOps_q 5 _ rfl rfl rfl (QOp_assign _ _ rfl rfl) ?_
  refine AOps_nil ?_
  refine ACode_cond _ rfl (fun hb2 => ?_) (fun hb2 => ?_)
  · have h := iteT hb2 h
    refine ACode_seq (ACode_region ?_)
    refine AOps_q 4 _ rfl rfl rfl (QOp_assign _ _ rfl rfl) ?_
    refine AOps_nil ?_
    refine ACode_ret ?_
    cases h
    exact ⟨_, _, fun r a w h => ⟨r, h⟩, _, _, [], _, (.cons (ResV_tmp _ _ rfl) .nil), rfl, rfl, rfl, rfl, rfl⟩
  · have h := iteF hb2 h
    refine ACode_seq (ACode_region ?_)
    refine AOps_q 10 _ rfl rfl rfl (QOp_move _ _ rfl rfl) ?_
    obtain ⟨r3, hr3, h⟩ := bindO h
    refine AOps_call [] 11 _ _ _ _ _ _ _ _ _ _ rfl rfl rfl rfl rfl rfl rfl hg_p1 rfl (nodupB_sound _ rfl) rfl rfl (viewA_mapD _) (hf_p1 _ hr3) ?_
    rintro _ _ ⟨rfl, rfl⟩
    refine ⟨(fun _ h => nomatch h), (allc (trivial) (fun _ h => nomatch h)), AOps_as 11 (v' := bV r3) (H' := []) rfl rfl ?_⟩
    refine AOps_q 12 _ rfl rfl rfl (QOp_not _ _ _ rfl rfl) ?_
    refine AOps_q 9 _ rfl rfl rfl (QOp_assign _ _ rfl rfl) ?_
    refine AOps_nil ?_
    refine ACode_cond _ rfl (fun hb4 => ?_) (fun hb4 => ?_)
    · have h := iteT hb4 h
      refine ACode_seq (ACode_region ?_)
      refine AOps_q 4 _ rfl rfl rfl (QOp_assign _ _ rfl rfl) ?_
      refine AOps_nil ?_
      refine ACode_ret ?_
      cases h
      exact ⟨_, _, fun r a w h => ⟨r, h⟩, _, _, [], _, (.cons (ResV_tmp _ _ rfl) .nil), rfl, rfl, rfl, rfl, rfl⟩
    · have h := iteF hb4 h
      refine ACode_skip ?_
      refine ACode_seq (ACode_region ?_)
      refine AOps_q 4 _ rfl rfl rfl (QOp_assign _ _ rfl rfl) ?_
      refine AOps_nil ?_
      refine ACode_ret ?_
      cases h
      exact ⟨_, _, fun r a w h => ⟨r, h⟩, _, _, [], _, (.cons (ResV_tmp _ _ rfl) .nil), rfl, rfl, rfl, rfl, rfl⟩

-- loop.example/g01362/impl.always
def impl_always : Bool :=
  true
set_option maxRecDepth 100000 in
theorem impl_always_ac : AC Tryd.prog 21 [] [] (fun res H' => res = [bV (impl_always)] ∧ H' = []) := by
  refine AC_of_body true Tryd.func21 rfl Tryd.ntmps21 (rvs := [.tmp 0]) rfl rfl (fun G hG => ?_)
  have hm : G.H.length = 0 := by rw [hG]; rfl
  have hz : zeroG G.H = true := by rw [hG]; rfl
  obtain ⟨r, h⟩ : ∃ r, impl_always = r := ⟨_, rfl⟩
  rw [h]
  unfold impl_always at h
  refine ACode_seq (ACode_region ?_)
  refine AOps_q 0 _ rfl rfl rfl (QOp_assign _ _ rfl rfl) ?_
  refine AOps_nil ?_
  refine ACode_seq (ACode_region ?_)
  refine AOps_q 0 _ rfl rfl rfl (QOp_assign _ _ rfl rfl) ?_
  refine AOps_nil ?_
  refine ACode_ret ?_
  cases h
  exact ⟨_, _, fun r a w h => ⟨r, h⟩, _, _, [], _, (.cons (ResV_tmp _ _ rfl) .nil), rfl, rfl, rfl, rfl, rfl⟩

-- loop.example/g01362/impl.number
def impl_number (p0 : Int) (p1 : Int) : Int :=
  w64 ((w64 ((w64 ((if p0 < p1 then p1 else p0) * (w64 ((if p0 < p1 then p1 else p0) - 1)))).tdiv 2)) + (if p1 < p0 then p1 else p0))
set_option maxRecDepth 100000 in
theorem impl_number_ac (p0 : Int) (p1 : Int) : AC Tryd.prog 52 [iV p0, iV p1] [] (fun res H' => res = [iV (impl_number p0 p1)] ∧ H' = []) := by
  refine AC_of_body true Tryd.func52 rfl Tryd.ntmps52 (rvs := [.tmp 4]) rfl rfl (fun G hG => ?_)
  have hm : G.H.length = 0 := by rw [hG]; rfl
  have hz : zeroG G.H = true := by rw [hG]; rfl
  obtain ⟨r, h⟩ : ∃ r, impl_number p0 p1 = r := ⟨_, rfl⟩
  rw [h]
  unfold impl_number at h
  refine ACode_seq (ACode_region ?_)
  refine AOps_q 4 _ rfl rfl rfl (QOp_assign _ _ rfl rfl) ?_
  refine AOps_nil ?_
  refine ACode_seq (ACode_region ?_)
  refine AOps_q 5 _ rfl rfl rfl (QOp_move _ _ rfl rfl) ?_
  refine AOps_q 6 _ rfl rfl rfl (QOp_move _ _ rfl rfl) ?_
  refine AOps_q 7 _ rfl rfl rfl (QOp_min _ _ _ _ _ _ rfl rfl rfl rfl rfl) ?_
  refine AOps_q 8 _ rfl rfl rfl (QOp_move _ _ rfl rfl) ?_
  refine AOps_q 9 _ rfl rfl rfl (QOp_move _ _ rfl rfl) ?_
  refine AOps_q 10 _ rfl rfl rfl (QOp_max _ _ _ _ _ _ rfl rfl rfl rfl rfl) ?_
  refine AOps_q 0 _ rfl rfl rfl (QOp_assign _ _ rfl rfl) ?_
  refine AOps_q 1 _ rfl rfl rfl (QOp_assign _ _ rfl rfl) ?_
  refine AOps_nil ?_
  refine ACode_seq (ACode_region ?_)
  refine AOps_q 11 _ rfl rfl rfl (QOp_move _ _ rfl rfl) ?_
  refine AOps_q 12 _ rfl rfl rfl (QOp_move _ _ rfl rfl) ?_
  refine AOps_q 13 _ rfl rfl rfl (QOp_sub _ _ _ _ _ _ _ rfl rfl rfl) ?_
  refine AOps_q 14 _ rfl rfl rfl (QOp_mul _ _ _ _ _ _ _ rfl rfl rfl) ?_
  refine AOps_q 15 _ rfl rfl rfl (QOp_quo _ _ _ _ _ _ _ (by decide) rfl rfl rfl) ?_
  refine AOps_q 16 _ rfl rfl rfl (QOp_move _ _ rfl rfl) ?_
  refine AOps_q 17 _ rfl rfl rfl (QOp_add _ _ _ _ _ _ _ rfl rfl rfl) ?_
  refine AOps_q 4 _ rfl rfl rfl (QOp_assign _ _ rfl rfl) ?_
  refine AOps_nil ?_
  refine ACode_ret ?_
  cases h
  exact ⟨_, _, fun r a w h => ⟨r, h⟩, _, _, [], _, (.cons (ResV_tmp _ _ rfl) .nil), rfl, rfl, rfl, rfl, rfl⟩

-- (*loop.example/g01362/impl.Colouring).at
def impl_Colouring_at (p0 : Col) (p1 : Int) (p2 : Int) : Option (Int) :=
  (if 0 ≤ (impl_number p1 p2) ∧ (impl_number p1 p2) < 136 then some ((p0.get ((impl_number p1 p2).toNat)).toNat : Int) else none)
set_option maxRecDepth 100000 in
theorem impl_Colouring_at_ac (p0 : Col) (p1 : Int) (p2 : Int) (r : Int) (h : impl_Colouring_at p0 p1 p2 = some r) : AC Tryd.prog 37 [.d (.pv (colD p0) 0), iV p1, iV p2] [] (fun res H' => res = [iV r] ∧ H' = []) := by
  refine AC_of_body true Tryd.func37 rfl Tryd.ntmps37 (rvs := [.tmp 6]) rfl rfl (fun G hG => ?_)
  have hm : G.H.length = 0 := by rw [hG]; rfl
  have hz : zeroG G.H = true := by rw [hG]; rfl
  unfold impl_Colouring_at at h
  refine ACode_seq (ACode_region ?_)
  refine AOps_q 6 _ rfl rfl rfl (QOp_assign _ _ rfl rfl) ?_
  refine AOps_nil ?_
  refine ACode_seq (ACode_quiet mixed (by kernel_rfl) ?_)
  refine AQ_q 7 _ rfl rfl rfl (QOp_move _ _ rfl rfl) ?_
  refine AQ_q 8 _ rfl rfl rfl (QOp_move _ _ rfl rfl) ?_
  refine AQ_q 9 _ rfl rfl rfl (QOp_move _ _ rfl rfl) ?_
  refine AQ_call 10 _ _ _ _ _ _ _ _ _ rfl rfl rfl rfl rfl rfl rfl Tryd.call52 rfl rfl rfl (impl_number_ac p1 p2) ?_
  refine AQ_q 11 _ rfl rfl rfl (QOp_nilCheck_pv _ _ _ rfl rfl) ?_
  refine AQ_q 12 _ rfl rfl rfl (QOp_fieldAddr_pv _ _ _ _ _ 2 _ _ rfl Tryd.underlying27 rfl _ Tryd.sizeOf22 rfl rfl) ?_
  obtain ⟨hc2, h⟩ := guardO h
  refine AQ_q 13 _ rfl rfl rfl (QOp_indexAddrA_pv _ _ _ _ _ _ _ _ _ rfl Tryd.underlying22 Tryd.sizeOf5 hc2.1 hc2.2 rfl rfl) ?_
  refine AQ_q 14 _ rfl rfl rfl (QOp_load_pv _ _ _ _ _ rfl Tryd.isAgg5 rfl (colD_get _ _ (by omega))) ?_
  refine AQ_q 15 _ rfl rfl rfl (QOp_fromByte _ _ _ _ _ rfl rfl Tryd.underlying2 wrap_i64_byte rfl) ?_
  refine AQ_q 6 _ rfl rfl rfl (QOp_assign _ _ rfl rfl) ?_
  refine AQ_nil ?_
  refine ACode_ret ?_
  cases h
  exact ⟨_, _, fun r a w h => ⟨r, h⟩, _, _, [], _, (.cons (ResV_tmp _ _ rfl) .nil), rfl, rfl, rfl, rfl, rfl⟩

-- internal/strconv.small
def internal_strconv_small (p0 : Int) : Option (ByteArray) :=
  (if decide (p0 < 10) then (if 0 ≤ p0 ∧ p0 ≤ w64 (p0 + 1) ∧ w64 (p0 + 1) ≤ (((⟨#[48, 49, 50, 51, 52, 53, 54, 55, 56, 57, 97, 98, 99, 100, 101, 102, 103, 104, 105, 106, 107, 108, 109, 110, 111, 112, 113, 114, 115, 116, 117, 118, 119, 120, 121, 122]⟩ : ByteArray) : ByteArray).size : Int) then some (((⟨#[48, 49, 50, 51, 52, 53, 54, 55, 56, 57, 97, 98, 99, 100, 101, 102, 103, 104, 105, 106, 107, 108, 109, 110, 111, 112, 113, 114, 115, 116, 117, 118, 119, 120, 121, 122]⟩ : ByteArray) : ByteArray).extract (p0.toNat) ((w64 (p0 + 1)).toNat)) else none) else (if 0 ≤ w64 (p0 * 2) ∧ w64 (p0 * 2) ≤ w64 ((w64 (p0 * 2)) + 2) ∧ w64 ((w64 (p0 * 2)) + 2) ≤ (((⟨#[48, 48, 48, 49, 48, 50, 48, 51, 48, 52, 48, 53, 48, 54, 48, 55, 48, 56, 48, 57, 49, 48, 49, 49, 49, 50, 49, 51, 49, 52, 49, 53, 49, 54, 49, 55, 49, 56, 49, 57, 50, 48, 50, 49, 50, 50, 50, 51, 50, 52, 50, 53, 50, 54, 50, 55, 50, 56, 50, 57, 51, 48, 51, 49, 51, 50, 51, 51, 51, 52, 51, 53, 51, 54, 51, 55, 51, 56, 51, 57, 52, 48, 52, 49, 52, 50, 52, 51, 52, 52, 52, 53, 52, 54, 52, 55, 52, 56, 52, 57, 53, 48, 53, 49, 53, 50, 53, 51, 53, 52, 53, 53, 53, 54, 53, 55, 53, 56, 53, 57, 54, 48, 54, 49, 54, 50, 54, 51, 54, 52, 54, 53, 54, 54, 54, 55, 54, 56, 54, 57, 55, 48, 55, 49, 55, 50, 55, 51, 55, 52, 55, 53, 55, 54, 55, 55, 55, 56, 55, 57, 56, 48, 56, 49, 56, 50, 56, 51, 56, 52, 56, 53, 56, 54, 56, 55, 56, 56, 56, 57, 57, 48, 57, 49, 57, 50, 57, 51, 57, 52, 57, 53, 57, 54, 57, 55, 57, 56, 57, 57]⟩ : ByteArray) : ByteArray).size : Int) then some (((⟨#[48, 48, 48, 49, 48, 50, 48, 51, 48, 52, 48, 53, 48, 54, 48, 55, 48, 56, 48, 57, 49, 48, 49, 49, 49, 50, 49, 51, 49, 52, 49, 53, 49, 54, 49, 55, 49, 56, 49, 57, 50, 48, 50, 49, 50, 50, 50, 51, 50, 52, 50, 53, 50, 54, 50, 55, 50, 56, 50, 57, 51, 48, 51, 49, 51, 50, 51, 51, 51, 52, 51, 53, 51, 54, 51, 55, 51, 56, 51, 57, 52, 48, 52, 49, 52, 50, 52, 51, 52, 52, 52, 53, 52, 54, 52, 55, 52, 56, 52, 57, 53, 48, 53, 49, 53, 50, 53, 51, 53, 52, 53, 53, 53, 54, 53, 55, 53, 56, 53, 57, 54, 48, 54, 49, 54, 50, 54, 51, 54, 52, 54, 53, 54, 54, 54, 55, 54, 56, 54, 57, 55, 48, 55, 49, 55, 50, 55, 51, 55, 52, 55, 53, 55, 54, 55, 55, 55, 56, 55, 57, 56, 48, 56, 49, 56, 50, 56, 51, 56, 52, 56, 53, 56, 54, 56, 55, 56, 56, 56, 57, 57, 48, 57, 49, 57, 50, 57, 51, 57, 52, 57, 53, 57, 54, 57, 55, 57, 56, 57, 57]⟩ : ByteArray) : ByteArray).extract ((w64 (p0 * 2)).toNat) ((w64 ((w64 (p0 * 2)) + 2)).toNat)) else none))
set_option maxRecDepth 100000 in
theorem internal_strconv_small_ac (p0 : Int) (r : ByteArray) (h : internal_strconv_small p0 = some r) : AC Tryd.prog 79 [iV p0] [] (fun res H' => res = [.d (.s (.string r))] ∧ H' = []) := by
  refine AC_of_body true Tryd.func79 rfl Tryd.ntmps79 (rvs := [.tmp 2]) rfl rfl (fun G hG => ?_)
  have hm : G.H.length = 0 := by rw [hG]; rfl
  have hz : zeroG G.H = true := by rw [hG]; rfl
  unfold internal_strconv_small at h
  refine ACode_seq (ACode_region ?_)
  refine AOps_q 2 _ rfl rfl rfl (QOp_assign _ _ rfl rfl) ?_
  refine AOps_nil ?_
  refine ACode_seq ?_
  refine ACode_seq (ACode_region ?_)
  refine AOps_q 3 _ rfl rfl rfl (QOp_move _ _ rfl rfl) ?_
  refine AOps_q 4 _ rfl rfl rfl (QOp_lss _ _ _ _ _ _ _ rfl rfl rfl) ?_
  refine AOps_nil ?_
  refine ACode_cond _ rfl (fun hb1 => ?_) (fun hb1 => ?_)
  · have h := iteT hb1 h
    refine ACode_seq (ACode_region ?_)
    refine AOps_q 5 _ rfl rfl rfl (QOp_move _ _ rfl rfl) ?_
    refine AOps_q 6 _ rfl rfl rfl (QOp_move _ _ rfl rfl) ?_
    refine AOps_q 7 _ rfl rfl rfl (QOp_add _ _ _ _ _ _ _ rfl rfl rfl) ?_
    obtain ⟨hc2, h⟩ := guardO h
    refine AOps_q 8 _ rfl rfl rfl (QOp_sslice _ _ _ _ _ (p0.toNat) ((w64 (p0 + 1)).toNat) rfl Tryd.underlying9 rfl ⟨_, by rw [Int.toNat_of_nonneg (by omega)]; rfl⟩ ⟨_, by rw [Int.toNat_of_nonneg (by omega)]; rfl⟩ (Int.toNat_le_toNat hc2.2.1) (Int.toNat_le.2 hc2.2.2)) ?_
    refine AOps_q 2 _ rfl rfl rfl (QOp_assign _ _ rfl rfl) ?_
    refine AOps_nil ?_
    refine ACode_ret ?_
    cases h
    exact ⟨_, _, fun r a w h => ⟨r, h⟩, _, _, [], _, (.cons (ResV_tmp _ _ rfl) .nil), rfl, rfl, rfl, rfl, rfl⟩
  · have h := iteF hb1 h
    refine ACode_skip ?_
    refine ACode_seq (ACode_region ?_)
    refine AOps_q 9 _ rfl rfl rfl (QOp_move _ _ rfl rfl) ?_
    refine AOps_q 10 _ rfl rfl rfl (QOp_mul _ _ _ _ _ _ _ rfl rfl rfl) ?_
    refine AOps_q 11 _ rfl rfl rfl (QOp_move _ _ rfl rfl) ?_
    refine AOps_q 12 _ rfl rfl rfl (QOp_mul _ _ _ _ _ _ _ rfl rfl rfl) ?_
    refine AOps_q 13 _ rfl rfl rfl (QOp_add _ _ _ _ _ _ _ rfl rfl rfl) ?_
    obtain ⟨hc3, h⟩ := guardO h
    refine AOps_q 14 _ rfl rfl rfl (QOp_sslice _ _ _ _ _ ((w64 (p0 * 2)).toNat) ((w64 ((w64 (p0 * 2)) + 2)).toNat) rfl Tryd.underlying9 rfl ⟨_, by rw [Int.toNat_of_nonneg (by omega)]; rfl⟩ ⟨_, by rw [Int.toNat_of_nonneg (by omega)]; rfl⟩ (Int.toNat_le_toNat hc3.2.1) (Int.toNat_le.2 hc3.2.2)) ?_
    refine AOps_q 2 _ rfl rfl rfl (QOp_assign _ _ rfl rfl) ?_
    refine AOps_nil ?_
    refine ACode_ret ?_
    cases h
    exact ⟨_, _, fun r a w h => ⟨r, h⟩, _, _, [], _, (.cons (ResV_tmp _ _ rfl) .nil), rfl, rfl, rfl, rfl, rfl⟩

-- internal/strconv.formatBits
def internal_strconv_formatBits (p0 : List UInt8) (p1 : Int) (p2 : Int) (p3 : Bool) (p4 : Bool) : Option (List UInt8 × ByteArray) :=
  (letO (if decide (p2 < 2) then true else (if decide (p2 = 10) then true else decide (36 < p2))) fun (s3 : Bool) => (if s3 then none else some ()) : Option (Unit)).bind fun s5 => none
set_option maxRecDepth 100000 in
theorem internal_strconv_formatBits_ac (p0 : List UInt8) (p1 : Int) (p2 : Int) (p3 : Bool) (p4 : Bool) (r : List UInt8 × ByteArray) (h : internal_strconv_formatBits p0 p1 p2 p3 p4 = some r) : AC Tryd.prog 82 [.d (.sl none (bysD p0)), .d (.s (.int .u64 p1)), iV p2, bV p3, bV p4] [] (fun res H' => res = [.d (.sl none (bysD r.1)), .d (.s (.string r.2))] ∧ H' = []) := by
  refine AC_of_body true Tryd.func82 rfl Tryd.ntmps82 (rvs := [.tmp 10, .tmp 11]) rfl rfl (fun G hG => ?_)
  have hm : G.H.length = 0 := by rw [hG]; rfl
  have hz : zeroG G.H = true := by rw [hG]; rfl
  unfold internal_strconv_formatBits at h
  refine ACode_seq (ACode_region ?_)
  refine AOps_q 10 _ rfl rfl rfl (QOp_assign _ _ rfl rfl) ?_
  refine AOps_q 11 _ rfl rfl rfl (QOp_assign _ _ rfl rfl) ?_
  refine AOps_nil ?_
  obtain ⟨s5, hss5, hks5⟩ := bindO h
  clear h
  refine ACode_seqJ (fun E' H' => Weak 102 G E' H' [(0, .d (.sl none (bysD p0))), (1, .d (.s (.int .u64 p1))), (2, iV p2), (3, bV p3), (4, bV p4), (10, .d (.sl (some true) [])), (11, .d (.s (.string (⟨#[]⟩ : ByteArray))))] []) ?_ ?_
  · have h := hss5
    clear hss5
    obtain ⟨s3, hss3, hks3⟩ := letS h
    clear h
    refine ACode_seqJ (fun E' H' => Weak 102 G E' H' [(0, .d (.sl none (bysD p0))), (1, .d (.s (.int .u64 p1))), (2, iV p2), (3, bV p3), (4, bV p4), (10, .d (.sl (some true) [])), (11, .d (.s (.string (⟨#[]⟩ : ByteArray)))), (28, bV s3)] []) ?_ ?_
    · have h := hss3
      clear hss3
      refine (ACode_region ?_)
      refine AOps_q 19 _ rfl rfl rfl (QOp_move _ _ rfl rfl) ?_
      refine AOps_q 20 _ rfl rfl rfl (QOp_lss _ _ _ _ _ _ _ rfl rfl rfl) ?_
      refine AOps_q 21 _ rfl rfl rfl (QOp_move _ _ rfl rfl) ?_
      refine AOps_case 21 _ rfl (fun hb1 => ?_) (fun hb1 => ?_)
      · have h := iteT hb1 h
        refine AOps_skip 22 rfl rfl rfl ?_
        refine AOps_skip 23 rfl rfl rfl ?_
        refine AOps_q 24 _ rfl rfl rfl (QOp_pick_t _ _ _ _ rfl rfl rfl) ?_
        refine AOps_q 25 _ rfl rfl rfl (QOp_move _ _ rfl rfl) ?_
        refine AOps_skip 26 rfl rfl rfl ?_
        refine AOps_skip 27 rfl rfl rfl ?_
        refine AOps_q 28 _ rfl rfl rfl (QOp_pick_t _ _ _ _ rfl rfl rfl) ?_
        refine AOps_nil ?_
        cases h
        exact Weak_keep 0 hm [0, 1, 2, 3, 4, 10, 11, 28] [] _ _ rfl rfl rfl
      · have h := iteF hb1 h
        refine AOps_q 22 _ rfl rfl rfl (QOp_move _ _ rfl rfl) ?_
        refine AOps_q 23 _ rfl rfl rfl (QOp_eql _ _ _ _ _ _ _ rfl rfl rfl) ?_
        refine AOps_q 24 _ rfl rfl rfl (QOp_pick_f _ _ _ _ rfl rfl rfl) ?_
        refine AOps_q 25 _ rfl rfl rfl (QOp_move _ _ rfl rfl) ?_
        refine AOps_case 25 _ rfl (fun hb2 => ?_) (fun hb2 => ?_)
        · have h := iteT hb2 h
          refine AOps_skip 26 rfl rfl rfl ?_
          refine AOps_skip 27 rfl rfl rfl ?_
          refine AOps_q 28 _ rfl rfl rfl (QOp_pick_t _ _ _ _ rfl rfl rfl) ?_
          refine AOps_nil ?_
          cases h
          exact Weak_keep 0 hm [0, 1, 2, 3, 4, 10, 11, 28] [] _ _ rfl rfl rfl
        · have h := iteF hb2 h
          refine AOps_q 26 _ rfl rfl rfl (QOp_move _ _ rfl rfl) ?_
          refine AOps_q 27 _ rfl rfl rfl (QOp_gtr _ _ _ _ _ _ _ rfl rfl rfl) ?_
          refine AOps_q 28 _ rfl rfl rfl (QOp_pick_f _ _ _ _ rfl rfl rfl) ?_
          refine AOps_nil ?_
          cases h
          exact Weak_keep 0 hm [0, 1, 2, 3, 4, 10, 11, 28] [] _ _ rfl rfl rfl
    intro E' H' hw
    refine ACode_weak hw ?_
    have h := hks3
    refine ACode_cond _ rfl (fun hb4 => ?_) (fun hb4 => ?_)
    · have h := iteT hb4 h
      refine (ACode_region ?_)
      cases h
    · have h := iteF hb4 h
      refine ACode_skip ?_
      cases h
      exact Weak_keep 0 hm [0, 1, 2, 3, 4, 10, 11] [] _ _ rfl rfl rfl
  intro E' H' hw
  refine ACode_weak hw ?_
  have h := hks5
  cases h

-- internal/strconv.FormatInt
def internal_strconv_FormatInt (p0 : Int) (p1 : Int) : Option (ByteArray) :=
  (if decide (p1 = 10) then (letO (if decide (0 ≤ p0) then decide (p0 < 100) else false) fun (s3 : Bool) => (if s3 then (internal_strconv_small p0).bind fun r5 => some (.inr r5) else some (.inl ())) : Option (Sum (Unit) (ByteArray))).bind fun os6 => (match os6 with | .inl s6 => none | .inr rr => some rr) else (internal_strconv_formatBits ([]) (IntKind.u64.wrap p0) p1 (decide (p0 < 0)) false).bind fun r7 => some r7.2)
set_option maxRecDepth 100000 in
theorem internal_strconv_FormatInt_ac (p0 : Int) (p1 : Int) (r : ByteArray) (h : internal_strconv_FormatInt p0 p1 = some r) : AC Tryd.prog 65 [iV p0, iV p1] [] (fun res H' => res = [.d (.s (.string r))] ∧ H' = []) := by
  refine AC_of_body true Tryd.func65 rfl Tryd.ntmps65 (rvs := [.tmp 4]) rfl rfl (fun G hG => ?_)
  have hm : G.H.length = 0 := by rw [hG]; rfl
  have hz : zeroG G.H = true := by rw [hG]; rfl
  unfold internal_strconv_FormatInt at h
  refine ACode_seq (ACode_region ?_)
  refine AOps_q 4 _ rfl rfl rfl (QOp_assign _ _ rfl rfl) ?_
  refine AOps_nil ?_
  refine ACode_seq ?_
  refine ACode_seq (ACode_region ?_)
  refine AOps_q 10 _ rfl rfl rfl (QOp_move _ _ rfl rfl) ?_
  refine AOps_q 11 _ rfl rfl rfl (QOp_eql _ _ _ _ _ _ _ rfl rfl rfl) ?_
  refine AOps_nil ?_
  refine ACode_cond _ rfl (fun hb1 => ?_) (fun hb1 => ?_)
  · have h := iteT hb1 h
    obtain ⟨os6, hss6, hks6⟩ := bindO h
    clear h
    refine ACode_seqJ (fun E' H' => ∃ s6 : Unit, os6 = .inl s6 ∧ Weak 54 G E' H' [(0, iV p0)] []) ?_ ?_
    · have h := hss6
      clear hss6
      obtain ⟨s3, hss3, hks3⟩ := letS h
      clear h
      refine ACode_seqJ (fun E' H' => Weak 54 G E' H' [(0, iV p0), (17, bV s3)] []) ?_ ?_
      · have h := hss3
        clear hss3
        refine (ACode_region ?_)
        refine AOps_q 12 _ rfl rfl rfl (QOp_move _ _ rfl rfl) ?_
        refine AOps_q 13 _ rfl rfl rfl (QOp_leq _ _ _ _ _ _ _ rfl rfl rfl) ?_
        refine AOps_q 14 _ rfl rfl rfl (QOp_move _ _ rfl rfl) ?_
        refine AOps_case 14 _ rfl (fun hb2 => ?_) (fun hb2 => ?_)
        · have h := iteT hb2 h
          refine AOps_q 15 _ rfl rfl rfl (QOp_move _ _ rfl rfl) ?_
          refine AOps_q 16 _ rfl rfl rfl (QOp_lss _ _ _ _ _ _ _ rfl rfl rfl) ?_
          refine AOps_q 17 _ rfl rfl rfl (QOp_pick_t _ _ _ _ rfl rfl rfl) ?_
          refine AOps_nil ?_
          cases h
          exact Weak_keep 0 hm [0, 17] [] _ _ rfl rfl rfl
        · have h := iteF hb2 h
          refine AOps_skip 15 rfl rfl rfl ?_
          refine AOps_skip 16 rfl rfl rfl ?_
          refine AOps_q 17 _ rfl rfl rfl (QOp_pick_f _ _ _ _ rfl rfl rfl) ?_
          refine AOps_nil ?_
          cases h
          exact Weak_keep 0 hm [0, 17] [] _ _ rfl rfl rfl
      intro E' H' hw
      refine ACode_weak hw ?_
      have h := hks3
      refine ACode_cond _ rfl (fun hb4 => ?_) (fun hb4 => ?_)
      · have h := iteT hb4 h
        refine ACode_seq (ACode_region ?_)
        refine AOps_q 18 _ rfl rfl rfl (QOp_move _ _ rfl rfl) ?_
        obtain ⟨r5, hr5, h⟩ := bindO h
        refine AOps_call [] 19 _ _ _ _ _ _ _ _ _ _ rfl rfl rfl rfl rfl rfl rfl Tryd.call79 rfl (nodupB_sound _ rfl) rfl rfl rfl (internal_strconv_small_ac p0 _ hr5) ?_
        rintro _ _ ⟨rfl, rfl⟩
        refine ⟨(fun _ h => nomatch h), (allc (trivial) (fun _ h => nomatch h)), AOps_as 19 (v' := .d (.s (.string r5))) (H' := []) rfl rfl ?_⟩
        refine AOps_q 4 _ rfl rfl rfl (QOp_assign _ _ rfl rfl) ?_
        refine AOps_nil ?_
        refine ACode_ret ?_
        cases h
        have h := hks6
        cases h
        exact ⟨_, _, fun r a w h => ⟨r, h⟩, _, _, [], _, (.cons (ResV_tmp _ _ rfl) .nil), rfl, rfl, rfl, rfl, rfl⟩
      · have h := iteF hb4 h
        refine ACode_skip ?_
        cases h
        exact ⟨_, rfl, Weak_keep 0 hm [0] [] _ _ rfl rfl rfl⟩
    rintro E' H' ⟨s6, rfl, hw⟩
    refine ACode_weak hw ?_
    have h := hks6
    cases h
  · have h := iteF hb1 h
    refine ACode_skip ?_
    refine ACode_seq (ACode_region ?_)
    refine AOps_q 45 _ rfl rfl rfl (QOp_move _ _ rfl rfl) ?_
    refine AOps_q 46 _ rfl rfl rfl (QOp_conv _ _ _ _ _ _ rfl rfl Tryd.underlying91 rfl) ?_
    refine AOps_q 47 _ rfl rfl rfl (QOp_move _ _ rfl rfl) ?_
    refine AOps_q 48 _ rfl rfl rfl (QOp_move _ _ rfl rfl) ?_
    refine AOps_q 49 _ rfl rfl rfl (QOp_lss _ _ _ _ _ _ _ rfl rfl rfl) ?_
    obtain ⟨r7, hr7, h⟩ := bindO h
    refine AOps_call [] 50 _ _ _ _ _ _ _ _ _ _ rfl rfl rfl rfl rfl rfl rfl Tryd.call82 rfl (nodupB_sound _ rfl) rfl rfl rfl (internal_strconv_formatBits_ac ([]) (IntKind.u64.wrap p0) p1 (decide (p0 < 0)) false _ hr7) ?_
    rintro _ _ ⟨rfl, rfl⟩
    refine ⟨(fun _ h => nomatch h), (allc (trivial) (allc (trivial) (fun _ h => nomatch h))), AOps_as 50 (v' := .tup [.d (.sl none (bysD r7.1)), .d (.s (.string r7.2))]) (H' := []) rfl rfl ?_⟩
    refine AOps_q 44 _ rfl rfl rfl (QOp_move _ _ rfl rfl) ?_
    refine AOps_q 51 _ rfl rfl rfl (QOp_extract _ _ _ _ rfl rfl rfl) ?_
    refine AOps_q 52 _ rfl rfl rfl (QOp_extract _ _ _ _ rfl rfl rfl) ?_
    refine AOps_q 8 _ rfl rfl rfl (QOp_assign _ _ rfl rfl) ?_
    refine AOps_q 9 _ rfl rfl rfl (QOp_assign _ _ rfl rfl) ?_
    refine AOps_nil ?_
    refine ACode_seq (ACode_region ?_)
    refine AOps_q 53 _ rfl rfl rfl (QOp_move _ _ rfl rfl) ?_
    refine AOps_q 4 _ rfl rfl rfl (QOp_assign _ _ rfl rfl) ?_
    refine AOps_nil ?_
    refine ACode_ret ?_
    cases h
    exact ⟨_, _, fun r a w h => ⟨r, h⟩, _, _, [], _, (.cons (ResV_tmp _ _ rfl) .nil), rfl, rfl, rfl, rfl, rfl⟩

-- strconv.FormatInt
def strconv_FormatInt (p0 : Int) (p1 : Int) : Option (ByteArray) :=
  (internal_strconv_FormatInt p0 p1).bind fun r1 => some r1
set_option maxRecDepth 100000 in
theorem strconv_FormatInt_ac (p0 : Int) (p1 : Int) (r : ByteArray) (h : strconv_FormatInt p0 p1 = some r) : AC Tryd.prog 43 [iV p0, iV p1] [] (fun res H' => res = [.d (.s (.string r))] ∧ H' = []) := by
  refine AC_of_body true Tryd.func43 rfl Tryd.ntmps43 (rvs := [.tmp 4]) rfl rfl (fun G hG => ?_)
  have hm : G.H.length = 0 := by rw [hG]; rfl
  have hz : zeroG G.H = true := by rw [hG]; rfl
  unfold strconv_FormatInt at h
  refine ACode_seq (ACode_region ?_)
  refine AOps_q 4 _ rfl rfl rfl (QOp_assign _ _ rfl rfl) ?_
  refine AOps_nil ?_
  refine ACode_seq (ACode_region ?_)
  refine AOps_q 5 _ rfl rfl rfl (QOp_move _ _ rfl rfl) ?_
  refine AOps_q 6 _ rfl rfl rfl (QOp_move _ _ rfl rfl) ?_
  obtain ⟨r1, hr1, h⟩ := bindO h
  refine AOps_call [] 7 _ _ _ _ _ _ _ _ _ _ rfl rfl rfl rfl rfl rfl rfl Tryd.call65 rfl (nodupB_sound _ rfl) rfl rfl rfl (internal_strconv_FormatInt_ac p0 p1 _ hr1) ?_
  rintro _ _ ⟨rfl, rfl⟩
  refine ⟨(fun _ h => nomatch h), (allc (trivial) (fun _ h => nomatch h)), AOps_as 7 (v' := .d (.s (.string r1))) (H' := []) rfl rfl ?_⟩
  refine AOps_q 4 _ rfl rfl rfl (QOp_assign _ _ rfl rfl) ?_
  refine AOps_nil ?_
  refine ACode_ret ?_
  cases h
  exact ⟨_, _, fun r a w h => ⟨r, h⟩, _, _, [], _, (.cons (ResV_tmp _ _ rfl) .nil), rfl, rfl, rfl, rfl, rfl⟩

-- loop.example/g01362/impl.decimal
def impl_decimal (p0 : Int) : Option (ByteArray) :=
  (strconv_FormatInt p0 10).bind fun r1 => some r1
set_option maxRecDepth 100000 in
theorem impl_decimal_ac (p0 : Int) (r : ByteArray) (h : impl_decimal p0 = some r) : AC Tryd.prog 26 [iV p0] [] (fun res H' => res = [.d (.s (.string r))] ∧ H' = []) := by
  refine AC_of_body true Tryd.func26 rfl Tryd.ntmps26 (rvs := [.tmp 2]) rfl rfl (fun G hG => ?_)
  have hm : G.H.length = 0 := by rw [hG]; rfl
  have hz : zeroG G.H = true := by rw [hG]; rfl
  unfold impl_decimal at h
  refine ACode_seq (ACode_region ?_)
  refine AOps_q 2 _ rfl rfl rfl (QOp_assign _ _ rfl rfl) ?_
  refine AOps_nil ?_
  refine ACode_seq (ACode_region ?_)
  refine AOps_q 3 _ rfl rfl rfl (QOp_move _ _ rfl rfl) ?_
  obtain ⟨r1, hr1, h⟩ := bindO h
  refine AOps_call [] 4 _ _ _ _ _ _ _ _ _ _ rfl rfl rfl rfl rfl rfl rfl Tryd.call43 rfl (nodupB_sound _ rfl) rfl rfl rfl (strconv_FormatInt_ac p0 10 _ hr1) ?_
  rintro _ _ ⟨rfl, rfl⟩
  refine ⟨(fun _ h => nomatch h), (allc (trivial) (fun _ h => nomatch h)), AOps_as 4 (v' := .d (.s (.string r1))) (H' := []) rfl rfl ?_⟩
  refine AOps_q 2 _ rfl rfl rfl (QOp_assign _ _ rfl rfl) ?_
  refine AOps_nil ?_
  refine ACode_ret ?_
  cases h
  exact ⟨_, _, fun r a w h => ⟨r, h⟩, _, _, [], _, (.cons (ResV_tmp _ _ rfl) .nil), rfl, rfl, rfl, rfl, rfl⟩

-- (*loop.example/g01362/impl.Colouring).text
def impl_Colouring_text_l1 (p0 : Col) (x1 : Int) : Nat → Int → (List UInt8) → Option (List UInt8)
  | 0, _, _ => none
  | k1 + 1, x4, x5 => (if decide (x4 < x1) then (impl_Colouring_at p0 x4 x1).bind fun r7 => (if x5.length + ([toByte (w64 (48 + r7))]).length ≤ 1099511627776 then impl_Colouring_text_l1 p0 x1 k1 (w64 (x4 + 1)) (x5 ++ ([toByte (w64 (48 + r7))])) else none) else some x5)
def impl_Colouring_text_l0 (k : Nat) (p0 : Col) : Nat → Int → (List ByteArray) → Option (List ByteArray)
  | 0, _, _ => none
  | k0 + 1, x1, x2 => (if decide (x1 < p0.p) then ((impl_Colouring_text_l1 p0 x1 k 0 ([] : List UInt8) : Option (List UInt8)).bind fun s9 => (if x2.length + ([(⟨s9.toArray⟩ : ByteArray)]).length ≤ 1099511627776 then some (x2 ++ ([(⟨s9.toArray⟩ : ByteArray)])) else none) : Option (List ByteArray)).bind fun s11 => impl_Colouring_text_l0 k p0 k0 (w64 (x1 + 1)) s11 else some x2)
def impl_Colouring_text (k : Nat) (p0 : Col) : Option (ByteArray) :=
  (impl_Colouring_text_l0 k p0 k 1 ([] : List ByteArray) : Option (List ByteArray)).bind fun s12 => (impl_decimal p0.p).bind fun r13 => (if r13.size + (⟨#[44]⟩ : ByteArray).size ≤ 1099511627776 then (impl_decimal p0.k).bind fun r15 => (if (r13 ++ (⟨#[44]⟩ : ByteArray)).size + r15.size ≤ 1099511627776 then (if ((r13 ++ (⟨#[44]⟩ : ByteArray)) ++ r15).size + (⟨#[58]⟩ : ByteArray).size ≤ 1099511627776 then (joinS s12 (⟨#[44]⟩ : ByteArray)).bind fun r18 => (if (((r13 ++ (⟨#[44]⟩ : ByteArray)) ++ r15) ++ (⟨#[58]⟩ : ByteArray)).size + r18.size ≤ 1099511627776 then some ((((r13 ++ (⟨#[44]⟩ : ByteArray)) ++ r15) ++ (⟨#[58]⟩ : ByteArray)) ++ r18) else none) else none) else none) else none)
set_option maxRecDepth 100000 in
theorem impl_Colouring_text_ac (k : Nat) (p0 : Col) (r : ByteArray) (h : impl_Colouring_text k p0 = some r) : AC Tryd.prog 22 [.d (.pv (colD p0) 0)] [] (fun res H' => res = [.d (.s (.string r))] ∧ H' = []) := by
  refine AC_of_body true Tryd.func22 rfl Tryd.ntmps22 (rvs := [.tmp 2]) rfl rfl (fun G hG => ?_)
  have hm : G.H.length = 0 := by rw [hG]; rfl
  have hz : zeroG G.H = true := by rw [hG]; rfl
  unfold impl_Colouring_text at h
  refine ACode_seq (ACode_region ?_)
  refine AOps_q 2 _ rfl rfl rfl (QOp_assign _ _ rfl rfl) ?_
  refine AOps_nil ?_
  refine ACode_seq (ACode_region ?_)
  refine AOps_buildSlice 7 _ _ _ [] (stsD ([] : List ByteArray)) _ rfl rfl rfl rfl rfl (by decide) Tryd.underlying60 Tryd.sizeOf9 (zero_of Tryd.typeInfo9 rfl) rfl rfl (stsD_one _) ?_
  refine AOps_q 3 _ rfl rfl rfl (QOp_assign _ _ rfl rfl) ?_
  refine AOps_nil ?_
  obtain ⟨s12, hss12, hks12⟩ := bindO h
  clear h
  refine ACode_seqJ (fun E' H' => Weak 52 G E' H' [(0, .d (.pv (colD p0) 0)), (3, .vec 0 0)] [.vec 0 (stsD s12)]) ?_ ?_
  · have h := hss12
    clear hss12
    refine ACode_seq (ACode_region ?_)
    refine AOps_q 4 _ rfl rfl rfl (QOp_assign _ _ rfl rfl) ?_
    refine AOps_nil ?_
    refine ACode_block ?_
    refine ACode_loopW (fun k0 E H => ∃ (x1 : Int) (x2 : List ByteArray), E = [(0, .d (.pv (colD p0) 0)), (3, .vec 0 0), (4, iV x1)] ∧ H = [.vec 0 (stsD x2)] ∧ impl_Colouring_text_l0 k p0 k0 x1 x2 = some s12) k _ _ (Weak_keep 0 hm [0, 3, 4] [0] _ _ rfl rfl rfl) ⟨_, _, rfl, rfl, h⟩ ?_
    clear h
    rintro k0 E H ⟨x1, x2, rfl, rfl, h⟩
    cases k0 with
    | zero => cases (show (none : Option (List ByteArray)) = some _ from h)
    | succ k0 =>
      rw [impl_Colouring_text_l0] at h
      refine ACode_seq ?_
      refine ACode_seq (ACode_region ?_)
      refine AOps_q 8 _ rfl rfl rfl (QOp_move _ _ rfl rfl) ?_
      refine AOps_q 9 _ rfl rfl rfl (QOp_move _ _ rfl rfl) ?_
      refine AOps_q 10 _ rfl rfl rfl (QOp_nilCheck_pv _ _ _ rfl rfl) ?_
      refine AOps_q 11 _ rfl rfl rfl (QOp_fieldAddr_pv _ _ _ _ _ 0 _ _ rfl Tryd.underlying27 rfl _ Tryd.sizeOf2 rfl rfl) ?_
      refine AOps_q 12 _ rfl rfl rfl (QOp_load_pv _ _ _ _ _ rfl Tryd.isAgg2 rfl rfl) ?_
      refine AOps_q 13 _ rfl rfl rfl (QOp_lss _ _ _ _ _ _ _ rfl rfl rfl) ?_
      refine AOps_nil ?_
      refine ACode_cond _ rfl (fun hb3 => ?_) (fun hb3 => ?_)
      · have h := iteT hb3 h
        refine ACode_skip ?_
        obtain ⟨s11, hss11, hks11⟩ := bindO h
        clear h
        refine ACode_seqJ (fun E' H' => Weak 52 G E' H' [(0, .d (.pv (colD p0) 0)), (3, .vec 0 0), (4, iV x1)] [.vec 0 (stsD s11)]) ?_ ?_
        · have h := hss11
          clear hss11
          refine ACode_block ?_
          refine ACode_seq (ACode_region ?_)
          refine AOps_buildSlice 16 _ _ _ [] (bysD ([] : List UInt8)) _ rfl rfl rfl rfl rfl (by decide) Tryd.underlying61 Tryd.sizeOf5 (zero_of Tryd.typeInfo5 rfl) rfl rfl (bysD_one _) ?_
          refine AOps_q 5 _ rfl rfl rfl (QOp_assign _ _ rfl rfl) ?_
          refine AOps_nil ?_
          obtain ⟨s9, hss9, hks9⟩ := bindO h
          clear h
          refine ACode_seqJ (fun E' H' => Weak 52 G E' H' [(0, .d (.pv (colD p0) 0)), (3, .vec 0 0), (4, iV x1), (5, .vec 1 0)] [.vec 0 (stsD x2), .vec 0 (bysD s9)]) ?_ ?_
          · have h := hss9
            clear hss9
            refine ACode_seq (ACode_region ?_)
            refine AOps_q 17 _ rfl rfl rfl (QOp_move _ _ rfl rfl) ?_
            refine AOps_q 18 _ rfl rfl rfl (QOp_move _ _ rfl rfl) ?_
            refine AOps_nil ?_
            refine ACode_block ?_
            refine ACode_loopW (fun k1 E H => ∃ (x4 : Int) (x5 : List UInt8), E = [(0, .d (.pv (colD p0) 0)), (3, .vec 0 0), (4, iV x1), (5, .vec 1 0), (17, iV x1), (18, iV x4)] ∧ H = [.vec 0 (stsD x2), .vec 0 (bysD x5)] ∧ impl_Colouring_text_l1 p0 x1 k1 x4 x5 = some s9) k _ _ (Weak_keep 0 hm [0, 3, 4, 5, 17, 18] [0, 1] _ _ rfl rfl rfl) ⟨_, _, rfl, rfl, h⟩ ?_
            clear h
            rintro k1 E H ⟨x4, x5, rfl, rfl, h⟩
            cases k1 with
            | zero => cases (show (none : Option (List UInt8)) = some _ from h)
            | succ k1 =>
              rw [impl_Colouring_text_l1] at h
              refine ACode_seq (ACode_region ?_)
              refine AOps_q 19 _ rfl rfl rfl (QOp_lss _ _ _ _ _ _ _ rfl rfl rfl) ?_
              refine AOps_nil ?_
              refine ACode_seq ?_
              refine ACode_cond _ rfl (fun hb6 => ?_) (fun hb6 => ?_)
              · have h := iteT hb6 h
                refine ACode_skip ?_
                refine ACode_seq ?_
                refine ACode_block ?_
                refine ACode_seq (ACode_region ?_)
                refine AOps_q 20 _ rfl rfl rfl (QOp_move _ _ rfl rfl) ?_
                refine AOps_q 6 _ rfl rfl rfl (QOp_assign _ _ rfl rfl) ?_
                refine AOps_nil ?_
                refine (ACode_region ?_)
                refine AOps_q 21 _ rfl rfl rfl (QOp_move _ _ rfl rfl) ?_
                refine AOps_q 22 _ rfl rfl rfl (QOp_move _ _ rfl rfl) ?_
                refine AOps_q 23 _ rfl rfl rfl (QOp_move _ _ rfl rfl) ?_
                refine AOps_q 24 _ rfl rfl rfl (QOp_move _ _ rfl rfl) ?_
                obtain ⟨r7, hr7, h⟩ := bindO h
                refine AOps_call [] 25 _ _ _ _ _ _ _ _ _ _ rfl rfl rfl rfl rfl rfl rfl Tryd.call37 rfl (nodupB_sound _ rfl) rfl rfl rfl (impl_Colouring_at_ac p0 x4 x1 _ hr7) ?_
                rintro _ _ ⟨rfl, rfl⟩
                refine ⟨(fun _ h => nomatch h), (allc (trivial) (fun _ h => nomatch h)), AOps_as 25 (v' := iV r7) (H' := [.vec 0 (stsD x2), .vec 0 (bysD x5)]) rfl rfl ?_⟩
                refine AOps_q 26 _ rfl rfl rfl (QOp_add _ _ _ _ _ _ _ rfl rfl rfl) ?_
                refine AOps_q 27 _ rfl rfl rfl (QOp_toByte _ _ _ _ _ rfl rfl Tryd.underlying5 rfl) ?_
                refine AOps_buildSlice 28 _ _ _ [_] (bysD ([toByte (w64 (48 + r7))])) _ rfl rfl rfl rfl rfl (by decide) Tryd.underlying61 Tryd.sizeOf5 (zero_of Tryd.typeInfo5 rfl) rfl rfl (bysD_one _) ?_
                obtain ⟨hc8, h⟩ := guardO h
                refine AOps_append 29 _ _ _ _ _ _ _ _ _ _ _ _ rfl rfl rfl rfl rfl rfl rfl Tryd.underlying61 Tryd.type5 rfl rfl rfl (by decide) rfl rfl rfl rfl (bysD_one _) (by rw [bysD_length, bysD_length]; exact hc8) ?_
                rw [bysD_app]
                refine AOps_q 5 _ rfl rfl rfl (QOp_assign _ _ rfl rfl) ?_
                refine AOps_nil ?_
                refine (ACode_region ?_)
                refine AOps_q 30 _ rfl rfl rfl (QOp_add _ _ _ _ _ _ _ rfl rfl rfl) ?_
                refine AOps_q 18 _ rfl rfl rfl (QOp_move _ _ rfl rfl) ?_
                refine AOps_nil ?_
                exact ⟨k1, _, _, Nat.lt_succ_self _, Weak_trans (Weak_keep 0 hm [0, 3, 4, 5, 17, 18] [0, 1] _ _ rfl rfl rfl) (Weak_reset 0 hm hz [0, 3, 4, 5, 17, 18] _ _ rfl rfl), _, _, rfl, rfl, h⟩
              · have h := iteF hb6 h
                refine ACode_exit ?_
                cases h
                exact Weak_keep 0 hm [0, 3, 4, 5] [0, 1] _ _ rfl rfl rfl
          intro E' H' hw
          refine ACode_weak hw ?_
          have h := hks9
          refine (ACode_region ?_)
          refine AOps_q 31 _ rfl rfl rfl (QOp_move _ _ rfl rfl) ?_
          refine AOps_q 32 _ rfl rfl rfl (QOp_move _ _ rfl rfl) ?_
          refine AOps_q 33 _ rfl rfl rfl (QOp_bstr _ _ _ _ _ _ _ rfl Tryd.underlying61 Tryd.underlying5 Tryd.underlying9 rfl rfl) ?_
          refine AOps_buildSlice 34 _ _ _ [_] (stsD ([(⟨s9.toArray⟩ : ByteArray)])) _ rfl rfl rfl rfl rfl (by decide) Tryd.underlying60 Tryd.sizeOf9 (zero_of Tryd.typeInfo9 rfl) rfl rfl (stsD_one _) ?_
          obtain ⟨hc10, h⟩ := guardO h
          refine AOps_append 35 _ _ _ _ _ _ _ _ _ _ _ _ rfl rfl rfl rfl rfl rfl rfl Tryd.underlying60 Tryd.type9 rfl rfl rfl (by decide) rfl rfl rfl rfl (stsD_one _) (by rw [stsD_length, stsD_length]; exact hc10) ?_
          rw [stsD_app]
          refine AOps_q 3 _ rfl rfl rfl (QOp_assign _ _ rfl rfl) ?_
          refine AOps_nil ?_
          cases h
          exact Weak_trans (Weak_keep 0 hm [0, 3, 4] [0] _ _ rfl rfl rfl) (Weak_reset 0 hm hz [0, 3, 4] _ _ rfl rfl)
        intro E' H' hw
        refine ACode_weak hw ?_
        have h := hks11
        refine (ACode_region ?_)
        refine AOps_q 14 _ rfl rfl rfl (QOp_move _ _ rfl rfl) ?_
        refine AOps_q 15 _ rfl rfl rfl (QOp_add _ _ _ _ _ _ _ rfl rfl rfl) ?_
        refine AOps_q 4 _ rfl rfl rfl (QOp_assign _ _ rfl rfl) ?_
        refine AOps_nil ?_
        exact ⟨k0, _, _, Nat.lt_succ_self _, Weak_keep 0 hm [0, 3, 4] [0] _ _ rfl rfl rfl, _, _, rfl, rfl, h⟩
      · have h := iteF hb3 h
        refine ACode_exit ?_
        cases h
        exact Weak_keep 0 hm [0, 3] [0] _ _ rfl rfl rfl
  intro E' H' hw
  refine ACode_weak hw ?_
  have h := hks12
  refine ACode_seq (ACode_quiet mixed (by kernel_rfl) ?_)
  refine AQ_q 36 _ rfl rfl rfl (QOp_move _ _ rfl rfl) ?_
  refine AQ_q 37 _ rfl rfl rfl (QOp_nilCheck_pv _ _ _ rfl rfl) ?_
  refine AQ_q 38 _ rfl rfl rfl (QOp_fieldAddr_pv _ _ _ _ _ 0 _ _ rfl Tryd.underlying27 rfl _ Tryd.sizeOf2 rfl rfl) ?_
  refine AQ_q 39 _ rfl rfl rfl (QOp_load_pv _ _ _ _ _ rfl Tryd.isAgg2 rfl rfl) ?_
  obtain ⟨r13, hr13, h⟩ := bindO h
  refine AQ_call 40 _ _ _ _ _ _ _ _ _ rfl rfl rfl rfl rfl rfl rfl Tryd.call26 rfl rfl rfl (impl_decimal_ac p0.p _ hr13) ?_
  obtain ⟨hc14, h⟩ := guardO h
  refine AQ_q 41 _ rfl rfl rfl (QOp_sadd _ _ _ _ _ _ rfl rfl rfl hc14) ?_
  refine AQ_q 42 _ rfl rfl rfl (QOp_move _ _ rfl rfl) ?_
  refine AQ_q 43 _ rfl rfl rfl (QOp_nilCheck_pv _ _ _ rfl rfl) ?_
  refine AQ_q 44 _ rfl rfl rfl (QOp_fieldAddr_pv _ _ _ _ _ 1 _ _ rfl Tryd.underlying27 rfl _ Tryd.sizeOf2 rfl rfl) ?_
  refine AQ_q 45 _ rfl rfl rfl (QOp_load_pv _ _ _ _ _ rfl Tryd.isAgg2 rfl rfl) ?_
  obtain ⟨r15, hr15, h⟩ := bindO h
  refine AQ_call 46 _ _ _ _ _ _ _ _ _ rfl rfl rfl rfl rfl rfl rfl Tryd.call26 rfl rfl rfl (impl_decimal_ac p0.k _ hr15) ?_
  obtain ⟨hc16, h⟩ := guardO h
  refine AQ_q 47 _ rfl rfl rfl (QOp_sadd _ _ _ _ _ _ rfl rfl rfl hc16) ?_
  obtain ⟨hc17, h⟩ := guardO h
  refine AQ_q 48 _ rfl rfl rfl (QOp_sadd _ _ _ _ _ _ rfl rfl rfl hc17) ?_
  refine AQ_q 49 _ rfl rfl rfl (QOp_move _ _ rfl rfl) ?_
  obtain ⟨r18, hr18, h⟩ := bindO h
  refine AQ_call 50 _ _ _ _ _ _ _ _ _ rfl rfl rfl rfl rfl rfl rfl Tryd.call38 rfl rfl rfl (joinS_ac s12 (⟨#[44]⟩ : ByteArray) _ hr18) ?_
  obtain ⟨hc19, h⟩ := guardO h
  refine AQ_q 51 _ rfl rfl rfl (QOp_sadd _ _ _ _ _ _ rfl rfl rfl hc19) ?_
  refine AQ_q 2 _ rfl rfl rfl (QOp_assign _ _ rfl rfl) ?_
  refine AQ_nil ?_
  refine ACode_ret ?_
  cases h
  exact ⟨_, _, fun r a w h => ⟨r, h⟩, _, _, [], _, (.cons (ResV_tmp _ _ rfl) .nil), rfl, rfl, rfl, rfl, rfl⟩

-- loop.example/g01362/impl.ColouringText
def impl_ColouringText (k : Nat) (p0 : Col) : Option (ByteArray × Int) :=
  (impl_Colouring_code k p0 (some (impl_always))).bind fun r1 => (if !decide (r1 = 0) then some ((⟨#[]⟩ : ByteArray), r1) else (impl_Colouring_text k p0).bind fun r3 => some (r3, 0))
set_option maxRecDepth 100000 in
theorem impl_ColouringText_ac (k : Nat) (p0 : Col) (r : ByteArray × Int) (h : impl_ColouringText k p0 = some r) : AC Tryd.prog 8 [.d (.agg (colD p0))] [] (fun res H' => res = [.d (.s (.string r.1)), iV r.2] ∧ H' = []) := by
  refine AC_of_body true Tryd.func8 rfl Tryd.ntmps8 (rvs := [.tmp 2, .tmp 3]) rfl rfl (fun G hG => ?_)
  have hm : G.H.length = 0 := by rw [hG]; rfl
  have hz : zeroG G.H = true := by rw [hG]; rfl
  unfold impl_ColouringText at h
  refine ACode_seq (ACode_region ?_)
  refine AOps_boxI 1 _ _ (.agg (colD p0)) (colD p0) rfl (colD_one _) rfl rfl rfl rfl rfl ?_
  refine AOps_q 2 _ rfl rfl rfl (QOp_assign _ _ rfl rfl) ?_
  refine AOps_q 3 _ rfl rfl rfl (QOp_assign _ _ rfl rfl) ?_
  refine AOps_nil ?_
  refine ACode_seq ?_
  refine ACode_seq (ACode_region ?_)
  obtain ⟨r1, hr1, h⟩ := bindO h
  refine AOps_call [] 5 _ _ _ _ _ _ _ _ _ _ rfl rfl rfl rfl rfl rfl rfl Tryd.call20 rfl (nodupB_sound _ rfl) rfl rfl rfl (impl_Colouring_code_ac k p0 (some (impl_always)) 21 ([]) Tryd.call21 (fun r h => by cases h; exact impl_always_ac) _ hr1) ?_
  rintro _ _ ⟨rfl, rfl⟩
  refine ⟨(fun _ h => nomatch h), (allc (trivial) (fun _ h => nomatch h)), AOps_as 5 (v' := iV r1) (H' := []) rfl rfl ?_⟩
  refine AOps_q 4 _ rfl rfl rfl (QOp_assign _ _ rfl rfl) ?_
  refine AOps_nil ?_
  refine ACode_seq (ACode_region ?_)
  refine AOps_q 6 _ rfl rfl rfl (QOp_move _ _ rfl rfl) ?_
  refine AOps_q 7 _ rfl rfl rfl (QOp_neq _ _ _ _ _ _ _ rfl rfl rfl) ?_
  refine AOps_nil ?_
  refine ACode_cond _ rfl (fun hb2 => ?_) (fun hb2 => ?_)
  · have h := iteT hb2 h
    refine ACode_seq (ACode_region ?_)
    refine AOps_q 8 _ rfl rfl rfl (QOp_move _ _ rfl rfl) ?_
    refine AOps_q 2 _ rfl rfl rfl (QOp_assign _ _ rfl rfl) ?_
    refine AOps_q 3 _ rfl rfl rfl (QOp_assign _ _ rfl rfl) ?_
    refine AOps_nil ?_
    refine ACode_ret ?_
    cases h
    exact ⟨_, _, fun r a w h => ⟨r, h⟩, _, _, [], _, (.cons (ResV_tmp _ _ rfl) (.cons (ResV_tmp _ _ rfl) .nil)), rfl, rfl, rfl, rfl, rfl⟩
  · have h := iteF hb2 h
    refine ACode_skip ?_
    refine ACode_seq (ACode_region ?_)
    obtain ⟨r3, hr3, h⟩ := bindO h
    refine AOps_call [] 9 _ _ _ _ _ _ _ _ _ _ rfl rfl rfl rfl rfl rfl rfl Tryd.call22 rfl (nodupB_sound _ rfl) rfl rfl rfl (impl_Colouring_text_ac k p0 _ hr3) ?_
    rintro _ _ ⟨rfl, rfl⟩
    refine ⟨(fun _ h => nomatch h), (allc (trivial) (fun _ h => nomatch h)), AOps_as 9 (v' := .d (.s (.string r3))) (H' := []) rfl rfl ?_⟩
    refine AOps_q 2 _ rfl rfl rfl (QOp_assign _ _ rfl rfl) ?_
    refine AOps_q 3 _ rfl rfl rfl (QOp_assign _ _ rfl rfl) ?_
    refine AOps_nil ?_
    refine ACode_ret ?_
    cases h
    exact ⟨_, _, fun r a w h => ⟨r, h⟩, _, _, [], _, (.cons (ResV_tmp _ _ rfl) (.cons (ResV_tmp _ _ rfl) .nil)), rfl, rfl, rfl, rfl, rfl⟩

-- loop.example/g01362/laws.FnExactColouringText
def laws_FnExactColouringText (k : Nat) (p0 : Col) : Option (Bool) :=
  (laws_toColouring k p0).bind fun r1 => (spec_ColouringText k r1).bind fun r2 => (laws_toColouring k p0).bind fun r3 => (impl_ColouringText k r3).bind fun r4 => (letO (if !(r4.1 == r2.1) then true else !decide (r4.2 = r2.2)) fun (s6 : Bool) => (if s6 then some (.inr false) else some (.inl ())) : Option (Sum (Unit) (Bool))).bind fun os8 => (match os8 with | .inl s8 => some true | .inr rr => some rr)
set_option maxRecDepth 100000 in
theorem laws_FnExactColouringText_ac (k : Nat) (p0 : Col) (r : Bool) (h : laws_FnExactColouringText k p0 = some r) : AC Tryd.prog 3 [.d (.agg (colD p0))] [] (fun res H' => res = [bV r] ∧ H' = []) := by
  refine AC_of_body true Tryd.func3 rfl Tryd.ntmps3 (rvs := [.tmp 2]) rfl rfl (fun G hG => ?_)
  have hm : G.H.length = 0 := by rw [hG]; rfl
  have hz : zeroG G.H = true := by rw [hG]; rfl
  unfold laws_FnExactColouringText at h
  refine ACode_seq (ACode_region ?_)
  refine AOps_boxI 1 _ _ (.agg (colD p0)) (colD p0) rfl (colD_one _) rfl rfl rfl rfl rfl ?_
  refine AOps_q 2 _ rfl rfl rfl (QOp_assign _ _ rfl rfl) ?_
  refine AOps_nil ?_
  refine ACode_seq (ACode_region ?_)
  refine AOps_q 8 _ rfl rfl rfl (QOp_loadN_pv _ _ _ _ _ _ rfl Tryd.isAgg24 Tryd.sizeOf24 rfl (colD_all _) (colD_length _)) ?_
  obtain ⟨r1, hr1, h⟩ := bindO h
  refine AOps_call [] 9 _ _ _ _ _ _ _ _ _ _ rfl rfl rfl rfl rfl rfl rfl Tryd.call7 rfl (nodupB_sound _ rfl) rfl rfl rfl (laws_toColouring_ac k p0 _ hr1) ?_
  rintro _ _ ⟨rfl, rfl⟩
  refine ⟨(fun _ h => nomatch h), (allc (trivial) (fun _ h => nomatch h)), AOps_as 9 (v' := .d (.agg (colD r1))) (H' := []) rfl rfl ?_⟩
  obtain ⟨r2, hr2, h⟩ := bindO h
  refine AOps_call [] 10 _ _ _ _ _ _ _ _ _ _ rfl rfl rfl rfl rfl rfl rfl Tryd.call6 rfl (nodupB_sound _ rfl) rfl rfl rfl (spec_ColouringText_ac k r1 _ hr2) ?_
  rintro _ _ ⟨rfl, rfl⟩
  refine ⟨(fun _ h => nomatch h), (allc (trivial) (allc (trivial) (fun _ h => nomatch h))), AOps_as 10 (v' := .tup [.d (.s (.string r2.1)), iV r2.2]) (H' := []) rfl rfl ?_⟩
  refine AOps_q 7 _ rfl rfl rfl (QOp_move _ _ rfl rfl) ?_
  refine AOps_q 11 _ rfl rfl rfl (QOp_extract _ _ _ _ rfl rfl rfl) ?_
  refine AOps_q 12 _ rfl rfl rfl (QOp_extract _ _ _ _ rfl rfl rfl) ?_
  refine AOps_q 3 _ rfl rfl rfl (QOp_assign _ _ rfl rfl) ?_
  refine AOps_q 4 _ rfl rfl rfl (QOp_assign _ _ rfl rfl) ?_
  refine AOps_nil ?_
  refine ACode_seq (ACode_region ?_)
  refine AOps_q 14 _ rfl rfl rfl (QOp_loadN_pv _ _ _ _ _ _ rfl Tryd.isAgg24 Tryd.sizeOf24 rfl (colD_all _) (colD_length _)) ?_
  obtain ⟨r3, hr3, h⟩ := bindO h
  refine AOps_call [] 15 _ _ _ _ _ _ _ _ _ _ rfl rfl rfl rfl rfl rfl rfl Tryd.call7 rfl (nodupB_sound _ rfl) rfl rfl rfl (laws_toColouring_ac k p0 _ hr3) ?_
  rintro _ _ ⟨rfl, rfl⟩
  refine ⟨(fun _ h => nomatch h), (allc (trivial) (fun _ h => nomatch h)), AOps_as 15 (v' := .d (.agg (colD r3))) (H' := []) rfl rfl ?_⟩
  obtain ⟨r4, hr4, h⟩ := bindO h
  refine AOps_call [] 16 _ _ _ _ _ _ _ _ _ _ rfl rfl rfl rfl rfl rfl rfl Tryd.call8 rfl (nodupB_sound _ rfl) rfl rfl rfl (impl_ColouringText_ac k r3 _ hr4) ?_
  rintro _ _ ⟨rfl, rfl⟩
  refine ⟨(fun _ h => nomatch h), (allc (trivial) (allc (trivial) (fun _ h => nomatch h))), AOps_as 16 (v' := .tup [.d (.s (.string r4.1)), iV r4.2]) (H' := []) rfl rfl ?_⟩
  refine AOps_q 13 _ rfl rfl rfl (QOp_move _ _ rfl rfl) ?_
  refine AOps_q 17 _ rfl rfl rfl (QOp_extract _ _ _ _ rfl rfl rfl) ?_
  refine AOps_q 18 _ rfl rfl rfl (QOp_extract _ _ _ _ rfl rfl rfl) ?_
  refine AOps_q 5 _ rfl rfl rfl (QOp_assign _ _ rfl rfl) ?_
  refine AOps_q 6 _ rfl rfl rfl (QOp_assign _ _ rfl rfl) ?_
  refine AOps_nil ?_
  obtain ⟨os8, hss8, hks8⟩ := bindO h
  clear h
  refine ACode_seqJ (fun E' H' => ∃ s8 : Unit, os8 = .inl s8 ∧ Weak 27 G E' H' [] []) ?_ ?_
  · have h := hss8
    clear hss8
    obtain ⟨s6, hss6, hks6⟩ := letS h
    clear h
    refine ACode_seqJ (fun E' H' => Weak 27 G E' H' [(26, bV s6)] []) ?_ ?_
    · have h := hss6
      clear hss6
      refine (ACode_region ?_)
      refine AOps_q 19 _ rfl rfl rfl (QOp_move _ _ rfl rfl) ?_
      refine AOps_q 20 _ rfl rfl rfl (QOp_move _ _ rfl rfl) ?_
      refine AOps_q 21 _ rfl rfl rfl (QOp_sneq _ _ _ _ _ _ rfl rfl rfl Tryd.underlying9) ?_
      refine AOps_q 22 _ rfl rfl rfl (QOp_move _ _ rfl rfl) ?_
      refine AOps_case 22 _ rfl (fun hb5 => ?_) (fun hb5 => ?_)
      · have h := iteT hb5 h
        refine AOps_skip 23 rfl rfl rfl ?_
        refine AOps_skip 24 rfl rfl rfl ?_
        refine AOps_skip 25 rfl rfl rfl ?_
        refine AOps_q 26 _ rfl rfl rfl (QOp_pick_t _ _ _ _ rfl rfl rfl) ?_
        refine AOps_nil ?_
        cases h
        exact Weak_keep 0 hm [26] [] _ _ rfl rfl rfl
      · have h := iteF hb5 h
        refine AOps_q 23 _ rfl rfl rfl (QOp_move _ _ rfl rfl) ?_
        refine AOps_q 24 _ rfl rfl rfl (QOp_move _ _ rfl rfl) ?_
        refine AOps_q 25 _ rfl rfl rfl (QOp_neq _ _ _ _ _ _ _ rfl rfl rfl) ?_
        refine AOps_q 26 _ rfl rfl rfl (QOp_pick_f _ _ _ _ rfl rfl rfl) ?_
        refine AOps_nil ?_
        cases h
        exact Weak_keep 0 hm [26] [] _ _ rfl rfl rfl
    intro E' H' hw
    refine ACode_weak hw ?_
    have h := hks6
    refine ACode_cond _ rfl (fun hb7 => ?_) (fun hb7 => ?_)
    · have h := iteT hb7 h
      refine ACode_seq (ACode_region ?_)
      refine AOps_q 2 _ rfl rfl rfl (QOp_assign _ _ rfl rfl) ?_
      refine AOps_nil ?_
      refine ACode_ret ?_
      cases h
      have h := hks8
      cases h
      exact ⟨_, _, fun r a w h => ⟨r, h⟩, _, _, [], _, (.cons (ResV_tmp _ _ rfl) .nil), rfl, rfl, rfl, rfl, rfl⟩
    · have h := iteF hb7 h
      refine ACode_skip ?_
      cases h
      exact ⟨_, rfl, Weak_keep 0 hm [] [] _ _ rfl rfl rfl⟩
  rintro E' H' ⟨s8, rfl, hw⟩
  refine ACode_weak hw ?_
  have h := hks8
  refine ACode_seq (ACode_region ?_)
  refine AOps_q 2 _ rfl rfl rfl (QOp_assign _ _ rfl rfl) ?_
  refine AOps_nil ?_
  refine ACode_ret ?_
  cases h
  exact ⟨_, _, fun r a w h => ⟨r, h⟩, _, _, [], _, (.cons (ResV_tmp _ _ rfl) .nil), rfl, rfl, rfl, rfl, rfl⟩

end Go.Proofs.YtmmiokljmfkoiaaDoor
