/- Plain functions of the program and that the program computes them: printed by the own tool gen.py. No conditions. -/
import Derived.Test.YtjkanhdklfgghaaAb17
import Derived.Test.YtjkanhdklfgghaaProg
import Derived.KernelRfl
set_option linter.unusedVariables false
set_option linter.unusedSimpArgs false
namespace Go.Proofs.Ytjkanhdklfgghaa
open Go Go.RowKit Ab

theorem mixed : Try.prog.follows .mixedOrders = true := by kernel_rfl

-- loop.example/g01362/laws.toByteA136
def laws_toByteA136_l0 (p0 : B136) : Nat → Int → B136 → Option (B136)
  | 0, _, _ => none
  | k0 + 1, x1, x2 => (if decide (x1 < 136) then (if 0 ≤ x1 ∧ x1 < 136 then (if 0 ≤ x1 ∧ x1 < 136 then laws_toByteA136_l0 p0 k0 (w64 (x1 + 1)) (x2.set x1.toNat (p0.get x1.toNat)) else none) else none) else some x2)
def laws_toByteA136 (k : Nat) (p0 : B136) : Option (B136) :=
  (laws_toByteA136_l0 p0 k 0 B136.zero : Option (B136)).bind fun s6 => some s6
set_option maxRecDepth 100000 in
theorem laws_toByteA136_ac (k : Nat) (p0 : B136) (r : B136) (h : laws_toByteA136 k p0 = some r) : AC Try.prog 58 [.d (.agg (byD p0))] [] (fun res H' => res = [.d (.agg (byD r))] ∧ H' = []) := by
  refine AC_of_body true Try.func58 rfl Try.ntmps58 (rvs := [.cell 2 22]) rfl rfl (fun G hG => ?_)
  have hm : G.H.length = 0 := by rw [hG]; rfl
  have hz : zeroG G.H = true := by rw [hG]; rfl
  unfold laws_toByteA136 at h
  refine ACode_seq (ACode_region ?_)
  refine AOps_boxI 1 _ _ (.agg (byD p0)) (byD p0) rfl (byD_one _) rfl rfl rfl rfl rfl ?_
  refine AOps_alloc 2 _ _ (byD B136.zero) (zero_of Try.typeInfo22 rfl) (by rfl) rfl rfl rfl rfl ?_
  refine AOps_nil ?_
  refine ACode_seq (ACode_region ?_)
  refine AOps_alloc 3 _ _ (byD B136.zero) (zero_of Try.typeInfo22 rfl) (by rfl) rfl rfl rfl rfl ?_
  refine AOps_nil ?_
  obtain ⟨s6, hss6, hks6⟩ := bindO h
  clear h
  refine ACode_seqJ (fun E' H' => Weak 15 G E' H' [(2, .ptr 0 0), (3, .ptr 1 0)] [.box (byD B136.zero), .box (byD s6)]) ?_ ?_
  · have h := hss6
    clear hss6
    refine ACode_seq (ACode_region ?_)
    refine AOps_q 4 _ rfl rfl rfl (QOp_assign _ _ rfl rfl) ?_
    refine AOps_nil ?_
    refine ACode_block ?_
    refine ACode_loopW (fun k0 E H => ∃ (x1 : Int) (x2 : B136), E = [(1, .d (.pv (byD p0) 0)), (2, .ptr 0 0), (3, .ptr 1 0), (4, iV x1)] ∧ H = [.box (byD B136.zero), .box (byD x2)] ∧ laws_toByteA136_l0 p0 k0 x1 x2 = some s6) k _ _ (Weak_keep 0 hm [1, 2, 3, 4] [0, 1] _ _ rfl rfl rfl) ⟨_, _, rfl, rfl, h⟩ ?_
    clear h
    rintro k0 E H ⟨x1, x2, rfl, rfl, h⟩
    cases k0 with
    | zero => cases (show (none : Option (B136)) = some _ from h)
    | succ k0 =>
      rw [laws_toByteA136_l0] at h
      refine ACode_seq ?_
      refine ACode_seq (ACode_region ?_)
      refine AOps_q 5 _ rfl rfl rfl (QOp_move _ _ rfl rfl) ?_
      refine AOps_q 6 _ rfl rfl rfl (QOp_lss _ _ _ _ _ _ _ rfl rfl rfl) ?_
      refine AOps_nil ?_
      refine ACode_cond _ rfl (fun hb3 => ?_) (fun hb3 => ?_)
      · have h := iteT hb3 h
        refine ACode_skip ?_
        refine ACode_seq ?_
        refine ACode_block ?_
        refine (ACode_region ?_)
        refine AOps_q 9 _ rfl rfl rfl (QOp_move _ _ rfl rfl) ?_
        refine AOps_q 10 _ rfl rfl rfl (QOp_move _ _ rfl rfl) ?_
        obtain ⟨hc4, h⟩ := guardO h
        refine AOps_q 11 _ rfl rfl rfl (QOp_indexAddrA_pv _ _ _ _ _ _ _ _ _ rfl Try.underlying22 Try.sizeOf5 hc4.1 hc4.2 rfl rfl) ?_
        refine AOps_q 12 _ rfl rfl rfl (QOp_load_pv _ _ _ _ _ rfl Try.isAgg5 rfl (by rw [Nat.zero_add]; exact byD_get _ _ (by omega))) ?_
        obtain ⟨hc5, h⟩ := guardO h
        refine AOps_q 13 _ rfl rfl rfl (QOp_indexAddrA_ptr _ _ _ _ _ _ _ _ _ _ rfl Try.underlying22 Try.sizeOf5 hc5.1 hc5.2 rfl rfl rfl rfl) ?_
        refine AOps_store1 _ _ _ _ _ _ (byD (x2.set x1.toNat (p0.get x1.toNat))) _ rfl rfl rfl rfl rfl rfl rfl Try.sizeOf5 (by rw [byD_length]; omega) (byD_set0 x2 x1.toNat (p0.get x1.toNat)) ?_
        refine AOps_nil ?_
        refine (ACode_region ?_)
        refine AOps_q 7 _ rfl rfl rfl (QOp_move _ _ rfl rfl) ?_
        refine AOps_q 8 _ rfl rfl rfl (QOp_add _ _ _ _ _ _ _ rfl rfl rfl) ?_
        refine AOps_q 4 _ rfl rfl rfl (QOp_assign _ _ rfl rfl) ?_
        refine AOps_nil ?_
        exact ⟨k0, _, _, Nat.lt_succ_self _, Weak_keep 0 hm [1, 2, 3, 4] [0, 1] _ _ rfl rfl rfl, _, _, rfl, rfl, h⟩
      · have h := iteF hb3 h
        refine ACode_exit ?_
        cases h
        exact Weak_keep 0 hm [2, 3] [0, 1] _ _ rfl rfl rfl
  intro E' H' hw
  refine ACode_weak hw ?_
  have h := hks6
  refine ACode_seq (ACode_region ?_)
  refine AOps_q 14 _ rfl rfl rfl (QOp_loadN_ptr _ _ _ _ _ _ _ rfl Try.isAgg22 Try.sizeOf22 rfl rfl (byD_all _) (byD_length _)) ?_
  refine AOps_store _ _ _ _ _ _ (byD _) _ _ rfl rfl rfl rfl rfl rfl rfl (byD_one _) (by rw [byD_length]; exact Try.sizeOf22) (by rw [byD_length, byD_length]; decide) (byD_whole _ _) ?_
  refine AOps_nil ?_
  refine ACode_ret ?_
  cases h
  exact ⟨_, _, fun r a w h => ⟨r, h⟩, _, _, [], _, (.cons (ResV_agg _ _ _ _ _ _ Try.isAgg22 Try.sizeOf22 rfl rfl (byD_take _) (byD_length _)) .nil), rfl, rfl, rfl, rfl, rfl⟩

-- loop.example/g01362/laws.toColouring
def laws_toColouring (k : Nat) (p0 : Col) : Option (Col) :=
  (laws_toByteA136 k p0.e).bind fun r1 => some (⟨(⟨(⟨p0.p, Col.zero.k, Col.zero.e⟩ : Col).p, p0.k, (⟨p0.p, Col.zero.k, Col.zero.e⟩ : Col).e⟩ : Col).p, (⟨(⟨p0.p, Col.zero.k, Col.zero.e⟩ : Col).p, p0.k, (⟨p0.p, Col.zero.k, Col.zero.e⟩ : Col).e⟩ : Col).k, r1⟩ : Col)
set_option maxRecDepth 100000 in
theorem laws_toColouring_ac (k : Nat) (p0 : Col) (r : Col) (h : laws_toColouring k p0 = some r) : AC Try.prog 24 [.d (.agg (colD p0))] [] (fun res H' => res = [.d (.agg (colD r))] ∧ H' = []) := by
  refine AC_of_body true Try.func24 rfl Try.ntmps24 (rvs := [.cell 2 24]) rfl rfl (fun G hG => ?_)
  have hm : G.H.length = 0 := by rw [hG]; rfl
  have hz : zeroG G.H = true := by rw [hG]; rfl
  unfold laws_toColouring at h
  refine ACode_seq (ACode_region ?_)
  refine AOps_boxI 1 _ _ (.agg (colD p0)) (colD p0) rfl (colD_one _) rfl rfl rfl rfl rfl ?_
  refine AOps_alloc 2 _ _ (colD Col.zero) (zero_of Try.typeInfo24 rfl) (by rfl) rfl rfl rfl rfl ?_
  refine AOps_nil ?_
  refine ACode_seq (ACode_region ?_)
  refine AOps_alloc 3 _ _ (colD Col.zero) (zero_of Try.typeInfo24 rfl) (by rfl) rfl rfl rfl rfl ?_
  refine AOps_nil ?_
  refine ACode_seq (ACode_region ?_)
  refine AOps_q 4 _ rfl rfl rfl (QOp_fieldAddr_pv _ _ _ _ _ 0 _ _ rfl Try.underlying37 rfl _ Try.sizeOf2 rfl rfl) ?_
  refine AOps_q 5 _ rfl rfl rfl (QOp_load_pv _ _ _ _ _ rfl Try.isAgg2 rfl rfl) ?_
  refine AOps_q 6 _ rfl rfl rfl (QOp_fieldAddr_ptr _ _ _ _ _ _ 0 _ _ rfl Try.underlying24 rfl _ Try.sizeOf2 rfl rfl rfl rfl) ?_
  refine AOps_store1 _ _ _ _ _ _ (colD (⟨p0.p, Col.zero.k, Col.zero.e⟩ : Col)) _ rfl rfl rfl rfl rfl rfl rfl Try.sizeOf2 (by rw [colD_length]; omega) (colD_set0 _ _) ?_
  refine AOps_nil ?_
  refine ACode_seq (ACode_region ?_)
  refine AOps_q 7 _ rfl rfl rfl (QOp_fieldAddr_pv _ _ _ _ _ 1 _ _ rfl Try.underlying37 rfl _ Try.sizeOf2 rfl rfl) ?_
  refine AOps_q 8 _ rfl rfl rfl (QOp_load_pv _ _ _ _ _ rfl Try.isAgg2 rfl rfl) ?_
  refine AOps_q 9 _ rfl rfl rfl (QOp_fieldAddr_ptr _ _ _ _ _ _ 1 _ _ rfl Try.underlying24 rfl _ Try.sizeOf2 rfl rfl rfl rfl) ?_
  refine AOps_store1 _ _ _ _ _ _ (colD (⟨(⟨p0.p, Col.zero.k, Col.zero.e⟩ : Col).p, p0.k, (⟨p0.p, Col.zero.k, Col.zero.e⟩ : Col).e⟩ : Col)) _ rfl rfl rfl rfl rfl rfl rfl Try.sizeOf2 (by rw [colD_length]; omega) (colD_set1 _ _) ?_
  refine AOps_nil ?_
  refine ACode_seq (ACode_region ?_)
  refine AOps_q 10 _ rfl rfl rfl (QOp_fieldAddr_pv _ _ _ _ _ 2 _ _ rfl Try.underlying37 rfl _ Try.sizeOf22 rfl rfl) ?_
  refine AOps_q 11 _ rfl rfl rfl (QOp_loadN_pv _ _ _ _ _ _ rfl Try.isAgg22 Try.sizeOf22 rfl (colD_edges _) (byD_length _)) ?_
  obtain ⟨r1, hr1, h⟩ := bindO h
  refine AOps_call [] 12 _ _ _ _ _ _ _ _ _ _ rfl rfl rfl rfl rfl rfl rfl Try.call58 rfl (nodupB_sound _ rfl) rfl rfl rfl (laws_toByteA136_ac k p0.e _ hr1) ?_
  rintro _ _ ⟨rfl, rfl⟩
  refine ⟨(fun _ h => nomatch h), (allc (trivial) (fun _ h => nomatch h)), AOps_as 12 (v' := .d (.agg (byD r1))) (H' := [.box (colD Col.zero), .box (colD (⟨(⟨p0.p, Col.zero.k, Col.zero.e⟩ : Col).p, p0.k, (⟨p0.p, Col.zero.k, Col.zero.e⟩ : Col).e⟩ : Col))]) rfl rfl ?_⟩
  refine AOps_q 13 _ rfl rfl rfl (QOp_fieldAddr_ptr _ _ _ _ _ _ 2 _ _ rfl Try.underlying24 rfl _ Try.sizeOf22 rfl rfl rfl rfl) ?_
  refine AOps_store _ _ _ _ _ _ (byD _) _ _ rfl rfl rfl rfl rfl rfl rfl (byD_one _) (by rw [byD_length]; exact Try.sizeOf22) (by rw [colD_length, byD_length]; decide) (colD_setA _ _) ?_
  refine AOps_nil ?_
  refine ACode_seq (ACode_region ?_)
  refine AOps_q 14 _ rfl rfl rfl (QOp_loadN_ptr _ _ _ _ _ _ _ rfl Try.isAgg24 Try.sizeOf24 rfl rfl (colD_all _) (colD_length _)) ?_
  refine AOps_store _ _ _ _ _ _ (colD _) _ _ rfl rfl rfl rfl rfl rfl rfl (colD_one _) (by rw [colD_length]; exact Try.sizeOf24) (by rw [colD_length, colD_length]; decide) (colD_whole _ _) ?_
  refine AOps_nil ?_
  refine ACode_ret ?_
  cases h
  exact ⟨_, _, fun r a w h => ⟨r, h⟩, _, _, [], _, (.cons (ResV_agg _ _ _ _ _ _ Try.isAgg24 Try.sizeOf24 rfl rfl (colD_take _) (colD_length _)) .nil), rfl, rfl, rfl, rfl, rfl⟩

-- loop.example/g01362/laws.toInt64S
def laws_toInt64S_l0 (p0 : List Int) : Nat → Int → (List Int) → Option (List Int)
  | 0, _, _ => none
  | k0 + 1, x2, x3 => (if decide (x2 < (p0.length : Int)) then (if 0 ≤ x2 ∧ x2 < (p0.length : Int) then (if 0 ≤ x2 ∧ x2 < (x3.length : Int) then laws_toInt64S_l0 p0 k0 (w64 (x2 + 1)) (x3.set x2.toNat (p0.getD x2.toNat 0)) else none) else none) else some x3)
def laws_toInt64S (k : Nat) (p0 : List Int) : Option (List Int) :=
  (if 0 ≤ (p0.length : Int) ∧ (p0.length : Int) ≤ (p0.length : Int) ∧ (p0.length : Int) ≤ 1099511627776 then (laws_toInt64S_l0 p0 k 0 (List.replicate (p0.length : Int).toNat (0 : Int)) : Option (List Int)).bind fun s7 => some s7 else none)
set_option maxRecDepth 100000 in
theorem laws_toInt64S_ac (k : Nat) (p0 : List Int) (r : List Int) (h : laws_toInt64S k p0 = some r) : AC Try.prog 25 [.d (.sl none (intsD p0))] [] (fun res H' => res = [.vec 0 0] ∧ H' = [.vec 0 (intsD r)]) := by
  refine AC_of_body true Try.func25 rfl Try.ntmps25 (rvs := [.tmp 2]) rfl rfl (fun G hG => ?_)
  have hm : G.H.length = 0 := by rw [hG]; rfl
  have hz : zeroG G.H = true := by rw [hG]; rfl
  unfold laws_toInt64S at h
  refine ACode_seq (ACode_region ?_)
  refine AOps_q 2 _ rfl rfl rfl (QOp_assign _ _ rfl rfl) ?_
  refine AOps_nil ?_
  refine ACode_seq (ACode_region ?_)
  refine AOps_q 5 _ rfl rfl rfl (QOp_move _ _ rfl rfl) ?_
  refine AOps_q 6 _ rfl rfl rfl (QOp_len_sl _ _ _ _ _ _ _ (intsD_length _) rfl rfl rfl rfl Try.underlying38 rfl) ?_
  obtain ⟨hc1, h⟩ := guardO h
  refine AOps_makeSliceG intsD iD 0 (intsD_rep · _) 7 _ _ _ _ _ _ (p0.length : Int) (p0.length : Int) _ (.int .i64 0) rfl rfl rfl rfl rfl rfl Try.underlying38 Try.type2 rfl rfl (by decide) rfl rfl hc1.1 hc1.2.1 hc1.2.2 ?_
  refine AOps_q 3 _ rfl rfl rfl (QOp_assign _ _ rfl rfl) ?_
  refine AOps_nil ?_
  obtain ⟨s7, hss7, hks7⟩ := bindO h
  clear h
  refine ACode_seqJ (fun E' H' => Weak 22 G E' H' [(3, .vec 0 0)] [.vec 0 (intsD s7)]) ?_ ?_
  · have h := hss7
    clear hss7
    refine ACode_seq (ACode_region ?_)
    refine AOps_q 4 _ rfl rfl rfl (QOp_assign _ _ rfl rfl) ?_
    refine AOps_nil ?_
    refine ACode_block ?_
    refine ACode_loopW (fun k0 E H => ∃ (x2 : Int) (x3 : List Int), E = [(0, .d (.sl none (intsD p0))), (3, .vec 0 0), (4, iV x2)] ∧ H = [.vec 0 (intsD x3)] ∧ laws_toInt64S_l0 p0 k0 x2 x3 = some s7) k _ _ (Weak_keep 0 hm [0, 3, 4] [0] _ _ rfl rfl rfl) ⟨_, _, rfl, rfl, h⟩ ?_
    clear h
    rintro k0 E H ⟨x2, x3, rfl, rfl, h⟩
    cases k0 with
    | zero => cases (show (none : Option (List Int)) = some _ from h)
    | succ k0 =>
      rw [laws_toInt64S_l0] at h
      refine ACode_seq ?_
      refine ACode_seq (ACode_region ?_)
      refine AOps_q 8 _ rfl rfl rfl (QOp_move _ _ rfl rfl) ?_
      refine AOps_q 9 _ rfl rfl rfl (QOp_move _ _ rfl rfl) ?_
      refine AOps_q 10 _ rfl rfl rfl (QOp_len_sl _ _ _ _ _ _ _ (intsD_length _) rfl rfl rfl rfl Try.underlying38 rfl) ?_
      refine AOps_q 11 _ rfl rfl rfl (QOp_lss _ _ _ _ _ _ _ rfl rfl rfl) ?_
      refine AOps_nil ?_
      refine ACode_cond _ rfl (fun hb4 => ?_) (fun hb4 => ?_)
      · have h := iteT hb4 h
        refine ACode_skip ?_
        refine ACode_seq ?_
        refine ACode_block ?_
        refine (ACode_region ?_)
        refine AOps_q 14 _ rfl rfl rfl (QOp_move _ _ rfl rfl) ?_
        refine AOps_q 15 _ rfl rfl rfl (QOp_move _ _ rfl rfl) ?_
        refine AOps_q 16 _ rfl rfl rfl (QOp_move _ _ rfl rfl) ?_
        refine AOps_q 17 _ rfl rfl rfl (QOp_move _ _ rfl rfl) ?_
        obtain ⟨hc5, h⟩ := guardO h
        refine AOps_q 18 _ rfl rfl rfl (QOp_indexAddr_sl _ _ _ _ _ _ _ _ rfl Try.underlying38 Try.sizeOf2 hc5.1 (by rw [intsD_length]; exact hc5.2) rfl rfl) ?_
        refine AOps_q 19 _ rfl rfl rfl (QOp_load_pv _ _ _ _ _ rfl Try.isAgg2 rfl (intsD_get _ _ 0 (by omega))) ?_
        obtain ⟨hc6, h⟩ := guardO h
        refine AOps_q 20 _ rfl rfl rfl (QOp_indexAddr_vec _ _ _ _ _ _ _ _ _ rfl Try.underlying38 Try.sizeOf2 hc6.1 (by rw [intsD_length]; exact hc6.2) rfl rfl rfl) ?_
        refine AOps_store_eptr _ _ _ _ _ _ (intsD x3) _ rfl rfl rfl rfl rfl rfl rfl Try.sizeOf2 (by rw [intsD_length]; omega) ?_
        rw [intsD_set]
        refine AOps_nil ?_
        refine (ACode_region ?_)
        refine AOps_q 12 _ rfl rfl rfl (QOp_move _ _ rfl rfl) ?_
        refine AOps_q 13 _ rfl rfl rfl (QOp_add _ _ _ _ _ _ _ rfl rfl rfl) ?_
        refine AOps_q 4 _ rfl rfl rfl (QOp_assign _ _ rfl rfl) ?_
        refine AOps_nil ?_
        exact ⟨k0, _, _, Nat.lt_succ_self _, Weak_keep 0 hm [0, 3, 4] [0] _ _ rfl rfl rfl, _, _, rfl, rfl, h⟩
      · have h := iteF hb4 h
        refine ACode_exit ?_
        cases h
        exact Weak_keep 0 hm [3] [0] _ _ rfl rfl rfl
  intro E' H' hw
  refine ACode_weak hw ?_
  have h := hks7
  refine ACode_seq (ACode_region ?_)
  refine AOps_q 21 _ rfl rfl rfl (QOp_move _ _ rfl rfl) ?_
  refine AOps_q 2 _ rfl rfl rfl (QOp_assign _ _ rfl rfl) ?_
  refine AOps_nil ?_
  refine ACode_ret ?_
  cases h
  exact ⟨_, _, Weak_reset 0 hm hz [2] _ _ rfl rfl, _, _, [0], _, (.cons (ResV_tmp _ _ rfl) .nil), rfl, rfl, rfl, rfl, rfl⟩

-- loop.example/g01362/spec.l01In
def spec_l01In (p0 : Int) (p1 : Int) (p2 : Int) : Bool :=
  letO (if decide (p1 ≤ p0) then decide (p0 ≤ p2) else false) fun (s2 : Bool) => s2
set_option maxRecDepth 100000 in
theorem spec_l01In_ac (p0 : Int) (p1 : Int) (p2 : Int) : AC Try.prog 100 [iV p0, iV p1, iV p2] [] (fun res H' => res = [bV (spec_l01In p0 p1 p2)] ∧ H' = []) := by
  refine AC_of_body true Try.func100 rfl Try.ntmps100 (rvs := [.tmp 6]) rfl rfl (fun G hG => ?_)
  have hm : G.H.length = 0 := by rw [hG]; rfl
  have hz : zeroG G.H = true := by rw [hG]; rfl
  obtain ⟨r, h⟩ : ∃ r, spec_l01In p0 p1 p2 = r := ⟨_, rfl⟩
  rw [h]
  unfold spec_l01In at h
  refine ACode_seq (ACode_region ?_)
  refine AOps_q 6 _ rfl rfl rfl (QOp_assign _ _ rfl rfl) ?_
  refine AOps_nil ?_
  obtain ⟨s2, hss2, hks2⟩ := letS h
  clear h
  refine ACode_seqJ (fun E' H' => Weak 15 G E' H' [(6, bV s2)] []) ?_ ?_
  · have h := hss2
    clear hss2
    refine (ACode_region ?_)
    refine AOps_q 7 _ rfl rfl rfl (QOp_move _ _ rfl rfl) ?_
    refine AOps_q 8 _ rfl rfl rfl (QOp_move _ _ rfl rfl) ?_
    refine AOps_q 9 _ rfl rfl rfl (QOp_geq _ _ _ _ _ _ _ rfl rfl rfl) ?_
    refine AOps_q 10 _ rfl rfl rfl (QOp_move _ _ rfl rfl) ?_
    refine AOps_case 10 _ rfl (fun hb1 => ?_) (fun hb1 => ?_)
    · have h := iteT hb1 h
      refine AOps_q 11 _ rfl rfl rfl (QOp_move _ _ rfl rfl) ?_
      refine AOps_q 12 _ rfl rfl rfl (QOp_move _ _ rfl rfl) ?_
      refine AOps_q 13 _ rfl rfl rfl (QOp_leq _ _ _ _ _ _ _ rfl rfl rfl) ?_
      refine AOps_q 14 _ rfl rfl rfl (QOp_pick_t _ _ _ _ rfl rfl rfl) ?_
      refine AOps_q 6 _ rfl rfl rfl (QOp_assign _ _ rfl rfl) ?_
      refine AOps_nil ?_
      cases h
      exact Weak_keep 0 hm [6] [] _ _ rfl rfl rfl
    · have h := iteF hb1 h
      refine AOps_skip 11 rfl rfl rfl ?_
      refine AOps_skip 12 rfl rfl rfl ?_
      refine AOps_skip 13 rfl rfl rfl ?_
      refine AOps_q 14 _ rfl rfl rfl (QOp_pick_f _ _ _ _ rfl rfl rfl) ?_
      refine AOps_q 6 _ rfl rfl rfl (QOp_assign _ _ rfl rfl) ?_
      refine AOps_nil ?_
      cases h
      exact Weak_keep 0 hm [6] [] _ _ rfl rfl rfl
  intro E' H' hw
  refine ACode_weak hw ?_
  have h := hks2
  refine ACode_ret ?_
  cases h
  exact ⟨_, _, fun r a w h => ⟨r, h⟩, _, _, [], _, (.cons (ResV_tmp _ _ rfl) .nil), rfl, rfl, rfl, rfl, rfl⟩

-- loop.example/g01362/spec.l01Is
def spec_l01Is_l0 (k : Nat) (p0 : Col) : Nat → Int → Option (Sum (Unit) (Bool))
  | 0, _ => none
  | k0 + 1, x7 => (if decide (x7 < 136) then (((if decide (x7 < w64 ((w64 (p0.p * (w64 (p0.p - 1)))).tdiv 2)) then (if 0 ≤ x7 ∧ x7 < 136 then (if decide (p0.k ≤ ((p0.get x7.toNat).toNat : Int)) then some true else (if decide (w64 ((w64 (p0.p * (w64 (p0.p - 1)))).tdiv 2) ≤ x7) then (if 0 ≤ x7 ∧ x7 < 136 then some (!decide (((p0.get x7.toNat).toNat : Int) = 0)) else none) else some false)) else none) else (if decide (w64 ((w64 (p0.p * (w64 (p0.p - 1)))).tdiv 2) ≤ x7) then (if 0 ≤ x7 ∧ x7 < 136 then some (!decide (((p0.get x7.toNat).toNat : Int) = 0)) else none) else some false)) : Option (Bool)).bind fun s16 => (if s16 then (some (.inr false)).bind fun rr => some (.inr rr) else some (.inl ())) : Option (Sum (Unit) (Sum (Unit) (Bool)))).bind fun os18 => (match os18 with | .inl s18 => spec_l01Is_l0 k p0 k0 (w64 (x7 + 1)) | .inr rr => some rr) else some (.inl ()))
def spec_l01Is (k : Nat) (p0 : Col) : Option (Bool) :=
  (letO (if !(spec_l01In p0.p 1 17) then true else !(spec_l01In p0.k 1 4)) fun (s4 : Bool) => (if s4 then some (.inr false) else some (.inl ())) : Option (Sum (Unit) (Bool))).bind fun os6 => (match os6 with | .inl s6 => (spec_l01Is_l0 k p0 k 0 : Option (Sum (Unit) (Bool))).bind fun os19 => (match os19 with | .inl s19 => some true | .inr rr => some rr) | .inr rr => some rr)
set_option maxRecDepth 100000 in
theorem spec_l01Is_ac (k : Nat) (p0 : Col) (r : Bool) (h : spec_l01Is k p0 = some r) : AC Try.prog 67 [.d (.agg (colD p0))] [] (fun res H' => res = [bV r] ∧ H' = []) := by
  refine AC_of_body true Try.func67 rfl Try.ntmps67 (rvs := [.tmp 2]) rfl rfl (fun G hG => ?_)
  have hm : G.H.length = 0 := by rw [hG]; rfl
  have hz : zeroG G.H = true := by rw [hG]; rfl
  unfold spec_l01Is at h
  refine ACode_seq (ACode_region ?_)
  refine AOps_boxI 1 _ _ (.agg (colD p0)) (colD p0) rfl (colD_one _) rfl rfl rfl rfl rfl ?_
  refine AOps_q 2 _ rfl rfl rfl (QOp_assign _ _ rfl rfl) ?_
  refine AOps_nil ?_
  obtain ⟨os6, hss6, hks6⟩ := bindO h
  clear h
  refine ACode_seqJ (fun E' H' => ∃ s6 : Unit, os6 = .inl s6 ∧ Weak 51 G E' H' [(1, .d (.pv (colD p0) 0))] []) ?_ ?_
  · have h := hss6
    clear hss6
    obtain ⟨s4, hss4, hks4⟩ := letS h
    clear h
    refine ACode_seqJ (fun E' H' => Weak 51 G E' H' [(1, .d (.pv (colD p0) 0)), (14, bV s4)] []) ?_ ?_
    · have h := hss4
      clear hss4
      refine (ACode_region ?_)
      refine AOps_q 5 _ rfl rfl rfl (QOp_fieldAddr_pv _ _ _ _ _ 0 _ _ rfl Try.underlying24 rfl _ Try.sizeOf2 rfl rfl) ?_
      refine AOps_q 6 _ rfl rfl rfl (QOp_load_pv _ _ _ _ _ rfl Try.isAgg2 rfl rfl) ?_
      refine AOps_call [] 7 _ _ _ _ _ _ _ _ _ _ rfl rfl rfl rfl rfl rfl rfl Try.call100 rfl (nodupB_sound _ rfl) rfl rfl rfl (spec_l01In_ac p0.p 1 17) ?_
      rintro _ _ ⟨rfl, rfl⟩
      refine ⟨(fun _ h => nomatch h), (allc (trivial) (fun _ h => nomatch h)), AOps_as 7 (v' := bV (spec_l01In p0.p 1 17)) (H' := []) rfl rfl ?_⟩
      refine AOps_q 8 _ rfl rfl rfl (QOp_not _ _ _ rfl rfl) ?_
      refine AOps_q 9 _ rfl rfl rfl (QOp_move _ _ rfl rfl) ?_
      refine AOps_case 9 _ rfl (fun hb2 => ?_) (fun hb2 => ?_)
      · have h := iteT hb2 h
        refine AOps_skip 10 rfl rfl rfl ?_
        refine AOps_skip 11 rfl rfl rfl ?_
        refine AOps_skip 12 rfl rfl rfl ?_
        refine AOps_skip 13 rfl rfl rfl ?_
        refine AOps_q 14 _ rfl rfl rfl (QOp_pick_t _ _ _ _ rfl rfl rfl) ?_
        refine AOps_nil ?_
        cases h
        exact Weak_keep 0 hm [1, 14] [] _ _ rfl rfl rfl
      · have h := iteF hb2 h
        refine AOps_q 10 _ rfl rfl rfl (QOp_fieldAddr_pv _ _ _ _ _ 1 _ _ rfl Try.underlying24 rfl _ Try.sizeOf2 rfl rfl) ?_
        refine AOps_q 11 _ rfl rfl rfl (QOp_load_pv _ _ _ _ _ rfl Try.isAgg2 rfl rfl) ?_
        refine AOps_call [] 12 _ _ _ _ _ _ _ _ _ _ rfl rfl rfl rfl rfl rfl rfl Try.call100 rfl (nodupB_sound _ rfl) rfl rfl rfl (spec_l01In_ac p0.k 1 4) ?_
        rintro _ _ ⟨rfl, rfl⟩
        refine ⟨(fun _ h => nomatch h), (allc (trivial) (fun _ h => nomatch h)), AOps_as 12 (v' := bV (spec_l01In p0.k 1 4)) (H' := []) rfl rfl ?_⟩
        refine AOps_q 13 _ rfl rfl rfl (QOp_not _ _ _ rfl rfl) ?_
        refine AOps_q 14 _ rfl rfl rfl (QOp_pick_f _ _ _ _ rfl rfl rfl) ?_
        refine AOps_nil ?_
        cases h
        exact Weak_keep 0 hm [1, 14] [] _ _ rfl rfl rfl
    intro E' H' hw
    refine ACode_weak hw ?_
    have h := hks4
    refine ACode_cond _ rfl (fun hb5 => ?_) (fun hb5 => ?_)
    · have h := iteT hb5 h
      refine ACode_seq (ACode_region ?_)
      refine AOps_q 2 _ rfl rfl rfl (QOp_assign _ _ rfl rfl) ?_
      refine AOps_nil ?_
      refine ACode_ret ?_
      cases h
      have h := hks6
      cases h
      exact ⟨_, _, fun r a w h => ⟨r, h⟩, _, _, [], _, (.cons (ResV_tmp _ _ rfl) .nil), rfl, rfl, rfl, rfl, rfl⟩
    · have h := iteF hb5 h
      refine ACode_skip ?_
      cases h
      exact ⟨_, rfl, Weak_keep 0 hm [1] [] _ _ rfl rfl rfl⟩
  rintro E' H' ⟨s6, rfl, hw⟩
  refine ACode_weak hw ?_
  have h := hks6
  refine ACode_seq (ACode_region ?_)
  refine AOps_q 15 _ rfl rfl rfl (QOp_fieldAddr_pv _ _ _ _ _ 0 _ _ rfl Try.underlying24 rfl _ Try.sizeOf2 rfl rfl) ?_
  refine AOps_q 16 _ rfl rfl rfl (QOp_load_pv _ _ _ _ _ rfl Try.isAgg2 rfl rfl) ?_
  refine AOps_q 17 _ rfl rfl rfl (QOp_fieldAddr_pv _ _ _ _ _ 0 _ _ rfl Try.underlying24 rfl _ Try.sizeOf2 rfl rfl) ?_
  refine AOps_q 18 _ rfl rfl rfl (QOp_load_pv _ _ _ _ _ rfl Try.isAgg2 rfl rfl) ?_
  refine AOps_q 19 _ rfl rfl rfl (QOp_sub _ _ _ _ _ _ _ rfl rfl rfl) ?_
  refine AOps_q 20 _ rfl rfl rfl (QOp_mul _ _ _ _ _ _ _ rfl rfl rfl) ?_
  refine AOps_q 21 _ rfl rfl rfl (QOp_quo _ _ _ _ _ _ _ (by decide) rfl rfl rfl) ?_
  refine AOps_q 3 _ rfl rfl rfl (QOp_assign _ _ rfl rfl) ?_
  refine AOps_nil ?_
  obtain ⟨os19, hss19, hks19⟩ := bindO h
  clear h
  refine ACode_seqJ (fun E' H' => ∃ s19 : Unit, os19 = .inl s19 ∧ Weak 51 G E' H' [] []) ?_ ?_
  · have h := hss19
    clear hss19
    refine ACode_seq (ACode_region ?_)
    refine AOps_q 4 _ rfl rfl rfl (QOp_assign _ _ rfl rfl) ?_
    refine AOps_nil ?_
    refine ACode_block ?_
    refine ACode_loopW (fun k0 E H => ∃ (x7 : Int), E = [(1, .d (.pv (colD p0) 0)), (3, iV (w64 ((w64 (p0.p * (w64 (p0.p - 1)))).tdiv 2))), (4, iV x7)] ∧ H = [] ∧ spec_l01Is_l0 k p0 k0 x7 = some os19) k _ _ (Weak_keep 0 hm [1, 3, 4] [] _ _ rfl rfl rfl) ⟨_, rfl, rfl, h⟩ ?_
    clear h
    rintro k0 E H ⟨x7, rfl, rfl, h⟩
    cases k0 with
    | zero => cases (show (none : Option (Sum (Unit) (Bool))) = some _ from h)
    | succ k0 =>
      rw [spec_l01Is_l0] at h
      refine ACode_seq ?_
      refine ACode_seq (ACode_region ?_)
      refine AOps_q 22 _ rfl rfl rfl (QOp_move _ _ rfl rfl) ?_
      refine AOps_q 23 _ rfl rfl rfl (QOp_lss _ _ _ _ _ _ _ rfl rfl rfl) ?_
      refine AOps_nil ?_
      refine ACode_cond _ rfl (fun hb8 => ?_) (fun hb8 => ?_)
      · have h := iteT hb8 h
        refine ACode_skip ?_
        obtain ⟨os18, hss18, hks18⟩ := bindO h
        clear h
        refine ACode_seqJ (fun E' H' => ∃ s18 : Unit, os18 = .inl s18 ∧ Weak 51 G E' H' [(1, .d (.pv (colD p0) 0)), (3, iV (w64 ((w64 (p0.p * (w64 (p0.p - 1)))).tdiv 2))), (4, iV x7)] []) ?_ ?_
        · have h := hss18
          clear hss18
          refine ACode_block ?_
          obtain ⟨s16, hss16, hks16⟩ := bindO h
          clear h
          refine ACode_seqJ (fun E' H' => Weak 51 G E' H' [(1, .d (.pv (colD p0) 0)), (3, iV (w64 ((w64 (p0.p * (w64 (p0.p - 1)))).tdiv 2))), (4, iV x7), (50, bV s16)] []) ?_ ?_
          · have h := hss16
            clear hss16
            refine (ACode_quiet mixed (by kernel_rfl) ?_)
            refine AQ_q 26 _ rfl rfl rfl (QOp_move _ _ rfl rfl) ?_
            refine AQ_q 27 _ rfl rfl rfl (QOp_move _ _ rfl rfl) ?_
            refine AQ_q 28 _ rfl rfl rfl (QOp_lss _ _ _ _ _ _ _ rfl rfl rfl) ?_
            refine AQ_q 29 _ rfl rfl rfl (QOp_move _ _ rfl rfl) ?_
            refine AQ_case 29 _ rfl (fun hb9 => ?_) (fun hb9 => ?_)
            · have h := iteT hb9 h
              refine AQ_q 30 _ rfl rfl rfl (QOp_move _ _ rfl rfl) ?_
              refine AQ_q 31 _ rfl rfl rfl (QOp_fieldAddr_pv _ _ _ _ _ 2 _ _ rfl Try.underlying24 rfl _ Try.sizeOf22 rfl rfl) ?_
              obtain ⟨hc10, h⟩ := guardO h
              refine AQ_q 32 _ rfl rfl rfl (QOp_indexAddrA_pv _ _ _ _ _ _ _ _ _ rfl Try.underlying22 Try.sizeOf5 hc10.1 hc10.2 rfl rfl) ?_
              refine AQ_q 33 _ rfl rfl rfl (QOp_load_pv _ _ _ _ _ rfl Try.isAgg5 rfl (colD_get _ _ (by omega))) ?_
              refine AQ_q 34 _ rfl rfl rfl (QOp_fromByte _ _ _ _ _ rfl rfl Try.underlying2 wrap_i64_byte rfl) ?_
              refine AQ_q 35 _ rfl rfl rfl (QOp_fieldAddr_pv _ _ _ _ _ 1 _ _ rfl Try.underlying24 rfl _ Try.sizeOf2 rfl rfl) ?_
              refine AQ_q 36 _ rfl rfl rfl (QOp_load_pv _ _ _ _ _ rfl Try.isAgg2 rfl rfl) ?_
              refine AQ_q 37 _ rfl rfl rfl (QOp_geq _ _ _ _ _ _ _ rfl rfl rfl) ?_
              refine AQ_q 38 _ rfl rfl rfl (QOp_pick_t _ _ _ _ rfl rfl rfl) ?_
              refine AQ_q 39 _ rfl rfl rfl (QOp_move _ _ rfl rfl) ?_
              refine AQ_case 39 _ rfl (fun hb11 => ?_) (fun hb11 => ?_)
              · have h := iteT hb11 h
                refine AQ_skip 40 rfl rfl rfl ?_
                refine AQ_skip 41 rfl rfl rfl ?_
                refine AQ_skip 42 rfl rfl rfl ?_
                refine AQ_skip 43 rfl rfl rfl ?_
                refine AQ_skip 44 rfl rfl rfl ?_
                refine AQ_skip 45 rfl rfl rfl ?_
                refine AQ_skip 46 rfl rfl rfl ?_
                refine AQ_skip 47 rfl rfl rfl ?_
                refine AQ_skip 48 rfl rfl rfl ?_
                refine AQ_skip 49 rfl rfl rfl ?_
                refine AQ_q 50 _ rfl rfl rfl (QOp_pick_t _ _ _ _ rfl rfl rfl) ?_
                refine AQ_nil ?_
                cases h
                exact Weak_keep 0 hm [1, 3, 4, 50] [] _ _ rfl rfl rfl
              · have h := iteF hb11 h
                refine AQ_q 40 _ rfl rfl rfl (QOp_move _ _ rfl rfl) ?_
                refine AQ_q 41 _ rfl rfl rfl (QOp_move _ _ rfl rfl) ?_
                refine AQ_q 42 _ rfl rfl rfl (QOp_geq _ _ _ _ _ _ _ rfl rfl rfl) ?_
                refine AQ_q 43 _ rfl rfl rfl (QOp_move _ _ rfl rfl) ?_
                refine AQ_case 43 _ rfl (fun hb12 => ?_) (fun hb12 => ?_)
                · have h := iteT hb12 h
                  refine AQ_q 44 _ rfl rfl rfl (QOp_move _ _ rfl rfl) ?_
                  refine AQ_q 45 _ rfl rfl rfl (QOp_fieldAddr_pv _ _ _ _ _ 2 _ _ rfl Try.underlying24 rfl _ Try.sizeOf22 rfl rfl) ?_
                  obtain ⟨hc13, h⟩ := guardO h
                  refine AQ_q 46 _ rfl rfl rfl (QOp_indexAddrA_pv _ _ _ _ _ _ _ _ _ rfl Try.underlying22 Try.sizeOf5 hc13.1 hc13.2 rfl rfl) ?_
                  refine AQ_q 47 _ rfl rfl rfl (QOp_load_pv _ _ _ _ _ rfl Try.isAgg5 rfl (colD_get _ _ (by omega))) ?_
                  refine AQ_q 48 _ rfl rfl rfl (QOp_neq _ _ _ _ _ _ _ rfl rfl rfl) ?_
                  refine AQ_q 49 _ rfl rfl rfl (QOp_pick_t _ _ _ _ rfl rfl rfl) ?_
                  refine AQ_q 50 _ rfl rfl rfl (QOp_pick_f _ _ _ _ rfl rfl rfl) ?_
                  refine AQ_nil ?_
                  cases h
                  exact Weak_keep 0 hm [1, 3, 4, 50] [] _ _ rfl rfl rfl
                · have h := iteF hb12 h
                  refine AQ_skip 44 rfl rfl rfl ?_
                  refine AQ_skip 45 rfl rfl rfl ?_
                  refine AQ_skip 46 rfl rfl rfl ?_
                  refine AQ_skip 47 rfl rfl rfl ?_
                  refine AQ_skip 48 rfl rfl rfl ?_
                  refine AQ_q 49 _ rfl rfl rfl (QOp_pick_f _ _ _ _ rfl rfl rfl) ?_
                  refine AQ_q 50 _ rfl rfl rfl (QOp_pick_f _ _ _ _ rfl rfl rfl) ?_
                  refine AQ_nil ?_
                  cases h
                  exact Weak_keep 0 hm [1, 3, 4, 50] [] _ _ rfl rfl rfl
            · have h := iteF hb9 h
              refine AQ_skip 30 rfl rfl rfl ?_
              refine AQ_skip 31 rfl rfl rfl ?_
              refine AQ_skip 32 rfl rfl rfl ?_
              refine AQ_skip 33 rfl rfl rfl ?_
              refine AQ_skip 34 rfl rfl rfl ?_
              refine AQ_skip 35 rfl rfl rfl ?_
              refine AQ_skip 36 rfl rfl rfl ?_
              refine AQ_skip 37 rfl rfl rfl ?_
              refine AQ_q 38 _ rfl rfl rfl (QOp_pick_f _ _ _ _ rfl rfl rfl) ?_
              refine AQ_q 39 _ rfl rfl rfl (QOp_move _ _ rfl rfl) ?_
              refine AQ_q 40 _ rfl rfl rfl (QOp_move _ _ rfl rfl) ?_
              refine AQ_q 41 _ rfl rfl rfl (QOp_move _ _ rfl rfl) ?_
              refine AQ_q 42 _ rfl rfl rfl (QOp_geq _ _ _ _ _ _ _ rfl rfl rfl) ?_
              refine AQ_q 43 _ rfl rfl rfl (QOp_move _ _ rfl rfl) ?_
              refine AQ_case 43 _ rfl (fun hb14 => ?_) (fun hb14 => ?_)
              · have h := iteT hb14 h
                refine AQ_q 44 _ rfl rfl rfl (QOp_move _ _ rfl rfl) ?_
                refine AQ_q 45 _ rfl rfl rfl (QOp_fieldAddr_pv _ _ _ _ _ 2 _ _ rfl Try.underlying24 rfl _ Try.sizeOf22 rfl rfl) ?_
                obtain ⟨hc15, h⟩ := guardO h
                refine AQ_q 46 _ rfl rfl rfl (QOp_indexAddrA_pv _ _ _ _ _ _ _ _ _ rfl Try.underlying22 Try.sizeOf5 hc15.1 hc15.2 rfl rfl) ?_
                refine AQ_q 47 _ rfl rfl rfl (QOp_load_pv _ _ _ _ _ rfl Try.isAgg5 rfl (colD_get _ _ (by omega))) ?_
                refine AQ_q 48 _ rfl rfl rfl (QOp_neq _ _ _ _ _ _ _ rfl rfl rfl) ?_
                refine AQ_q 49 _ rfl rfl rfl (QOp_pick_t _ _ _ _ rfl rfl rfl) ?_
                refine AQ_q 50 _ rfl rfl rfl (QOp_pick_f _ _ _ _ rfl rfl rfl) ?_
                refine AQ_nil ?_
                cases h
                exact Weak_keep 0 hm [1, 3, 4, 50] [] _ _ rfl rfl rfl
              · have h := iteF hb14 h
                refine AQ_skip 44 rfl rfl rfl ?_
                refine AQ_skip 45 rfl rfl rfl ?_
                refine AQ_skip 46 rfl rfl rfl ?_
                refine AQ_skip 47 rfl rfl rfl ?_
                refine AQ_skip 48 rfl rfl rfl ?_
                refine AQ_q 49 _ rfl rfl rfl (QOp_pick_f _ _ _ _ rfl rfl rfl) ?_
                refine AQ_q 50 _ rfl rfl rfl (QOp_pick_f _ _ _ _ rfl rfl rfl) ?_
                refine AQ_nil ?_
                cases h
                exact Weak_keep 0 hm [1, 3, 4, 50] [] _ _ rfl rfl rfl
          intro E' H' hw
          refine ACode_weak hw ?_
          have h := hks16
          refine ACode_cond _ rfl (fun hb17 => ?_) (fun hb17 => ?_)
          · have h := iteT hb17 h
            refine ACode_seq (ACode_region ?_)
            refine AOps_q 2 _ rfl rfl rfl (QOp_assign _ _ rfl rfl) ?_
            refine AOps_nil ?_
            refine ACode_ret ?_
            obtain ⟨rr, hz20, h2⟩ := bindO h
            obtain rfl := Option.some.inj h2
            obtain rfl := Option.some.inj (show some rr = some _ from hks18)
            have h := hz20
            cases h
            have h := hks19
            cases h
            exact ⟨_, _, fun r a w h => ⟨r, h⟩, _, _, [], _, (.cons (ResV_tmp _ _ rfl) .nil), rfl, rfl, rfl, rfl, rfl⟩
          · have h := iteF hb17 h
            refine ACode_skip ?_
            cases h
            exact ⟨_, rfl, Weak_keep 0 hm [1, 3, 4] [] _ _ rfl rfl rfl⟩
        rintro E' H' ⟨s18, rfl, hw⟩
        refine ACode_weak hw ?_
        have h := hks18
        refine (ACode_region ?_)
        refine AOps_q 24 _ rfl rfl rfl (QOp_move _ _ rfl rfl) ?_
        refine AOps_q 25 _ rfl rfl rfl (QOp_add _ _ _ _ _ _ _ rfl rfl rfl) ?_
        refine AOps_q 4 _ rfl rfl rfl (QOp_assign _ _ rfl rfl) ?_
        refine AOps_nil ?_
        exact ⟨k0, _, _, Nat.lt_succ_self _, Weak_keep 0 hm [1, 3, 4] [] _ _ rfl rfl rfl, _, rfl, rfl, h⟩
      · have h := iteF hb8 h
        refine ACode_exit ?_
        cases h
        exact ⟨_, rfl, Weak_keep 0 hm [] [] _ _ rfl rfl rfl⟩
  rintro E' H' ⟨s19, rfl, hw⟩
  refine ACode_weak hw ?_
  have h := hks19
  refine ACode_seq (ACode_region ?_)
  refine AOps_q 2 _ rfl rfl rfl (QOp_assign _ _ rfl rfl) ?_
  refine AOps_nil ?_
  refine ACode_ret ?_
  cases h
  exact ⟨_, _, fun r a w h => ⟨r, h⟩, _, _, [], _, (.cons (ResV_tmp _ _ rfl) .nil), rfl, rfl, rfl, rfl, rfl⟩

-- loop.example/g01362/spec.l01All
def spec_l01All_l0 (p0 : List Int) (p1 : Int) : Nat → Int → Option (Sum (Unit) (Bool))
  | 0, _ => none
  | k0 + 1, x1 => (if decide (x1 < (p0.length : Int)) then (if 0 ≤ x1 ∧ x1 < (p0.length : Int) then (if !(spec_l01In (p0.getD x1.toNat 0) 0 (w64 (p1 - 1))) then some (.inr false) else spec_l01All_l0 p0 p1 k0 (w64 (x1 + 1))) else none) else some (.inl ()))
def spec_l01All (k : Nat) (p0 : List Int) (p1 : Int) : Option (Bool) :=
  (spec_l01All_l0 p0 p1 k 0 : Option (Sum (Unit) (Bool))).bind fun os6 => (match os6 with | .inl s6 => some true | .inr rr => some rr)
set_option maxRecDepth 100000 in
theorem spec_l01All_ac (k : Nat) (p0 : List Int) (p1 : Int) (r : Bool) (h : spec_l01All k p0 p1 = some r) : AC Try.prog 108 [.d (.sl none (intsD p0)), iV p1] [] (fun res H' => res = [bV r] ∧ H' = []) := by
  refine AC_of_body true Try.func108 rfl Try.ntmps108 (rvs := [.tmp 4]) rfl rfl (fun G hG => ?_)
  have hm : G.H.length = 0 := by rw [hG]; rfl
  have hz : zeroG G.H = true := by rw [hG]; rfl
  unfold spec_l01All at h
  refine ACode_seq (ACode_region ?_)
  refine AOps_q 4 _ rfl rfl rfl (QOp_assign _ _ rfl rfl) ?_
  refine AOps_nil ?_
  obtain ⟨os6, hss6, hks6⟩ := bindO h
  clear h
  refine ACode_seqJ (fun E' H' => ∃ s6 : Unit, os6 = .inl s6 ∧ Weak 20 G E' H' [] []) ?_ ?_
  · have h := hss6
    clear hss6
    refine ACode_seq (ACode_region ?_)
    refine AOps_q 5 _ rfl rfl rfl (QOp_assign _ _ rfl rfl) ?_
    refine AOps_nil ?_
    refine ACode_block ?_
    refine ACode_loopW (fun k0 E H => ∃ (x1 : Int), E = [(0, .d (.sl none (intsD p0))), (1, iV p1), (5, iV x1)] ∧ H = [] ∧ spec_l01All_l0 p0 p1 k0 x1 = some os6) k _ _ (Weak_keep 0 hm [0, 1, 5] [] _ _ rfl rfl rfl) ⟨_, rfl, rfl, h⟩ ?_
    clear h
    rintro k0 E H ⟨x1, rfl, rfl, h⟩
    cases k0 with
    | zero => cases (show (none : Option (Sum (Unit) (Bool))) = some _ from h)
    | succ k0 =>
      rw [spec_l01All_l0] at h
      refine ACode_seq ?_
      refine ACode_seq (ACode_region ?_)
      refine AOps_q 6 _ rfl rfl rfl (QOp_move _ _ rfl rfl) ?_
      refine AOps_q 7 _ rfl rfl rfl (QOp_move _ _ rfl rfl) ?_
      refine AOps_q 8 _ rfl rfl rfl (QOp_len_sl _ _ _ _ _ _ _ (intsD_length _) rfl rfl rfl rfl Try.underlying38 rfl) ?_
      refine AOps_q 9 _ rfl rfl rfl (QOp_lss _ _ _ _ _ _ _ rfl rfl rfl) ?_
      refine AOps_nil ?_
      refine ACode_cond _ rfl (fun hb2 => ?_) (fun hb2 => ?_)
      · have h := iteT hb2 h
        refine ACode_skip ?_
        refine ACode_seq ?_
        refine ACode_block ?_
        refine ACode_seq (ACode_region ?_)
        refine AOps_q 12 _ rfl rfl rfl (QOp_move _ _ rfl rfl) ?_
        refine AOps_q 13 _ rfl rfl rfl (QOp_move _ _ rfl rfl) ?_
        obtain ⟨hc3, h⟩ := guardO h
        refine AOps_q 14 _ rfl rfl rfl (QOp_indexAddr_sl _ _ _ _ _ _ _ _ rfl Try.underlying38 Try.sizeOf2 hc3.1 (by rw [intsD_length]; exact hc3.2) rfl rfl) ?_
        refine AOps_q 15 _ rfl rfl rfl (QOp_load_pv _ _ _ _ _ rfl Try.isAgg2 rfl (intsD_get _ _ 0 (by omega))) ?_
        refine AOps_q 16 _ rfl rfl rfl (QOp_move _ _ rfl rfl) ?_
        refine AOps_q 17 _ rfl rfl rfl (QOp_sub _ _ _ _ _ _ _ rfl rfl rfl) ?_
        refine AOps_call [] 18 _ _ _ _ _ _ _ _ _ _ rfl rfl rfl rfl rfl rfl rfl Try.call100 rfl (nodupB_sound _ rfl) rfl rfl rfl (spec_l01In_ac (p0.getD x1.toNat 0) 0 (w64 (p1 - 1))) ?_
        rintro _ _ ⟨rfl, rfl⟩
        refine ⟨(fun _ h => nomatch h), (allc (trivial) (fun _ h => nomatch h)), AOps_as 18 (v' := bV (spec_l01In (p0.getD x1.toNat 0) 0 (w64 (p1 - 1)))) (H' := []) rfl rfl ?_⟩
        refine AOps_q 19 _ rfl rfl rfl (QOp_not _ _ _ rfl rfl) ?_
        refine AOps_nil ?_
        refine ACode_cond _ rfl (fun hb5 => ?_) (fun hb5 => ?_)
        · have h := iteT hb5 h
          refine ACode_seq (ACode_region ?_)
          refine AOps_q 4 _ rfl rfl rfl (QOp_assign _ _ rfl rfl) ?_
          refine AOps_nil ?_
          refine ACode_ret ?_
          cases h
          have h := hks6
          cases h
          exact ⟨_, _, fun r a w h => ⟨r, h⟩, _, _, [], _, (.cons (ResV_tmp _ _ rfl) .nil), rfl, rfl, rfl, rfl, rfl⟩
        · have h := iteF hb5 h
          refine ACode_skip ?_
          refine (ACode_region ?_)
          refine AOps_q 10 _ rfl rfl rfl (QOp_move _ _ rfl rfl) ?_
          refine AOps_q 11 _ rfl rfl rfl (QOp_add _ _ _ _ _ _ _ rfl rfl rfl) ?_
          refine AOps_q 5 _ rfl rfl rfl (QOp_assign _ _ rfl rfl) ?_
          refine AOps_nil ?_
          exact ⟨k0, _, _, Nat.lt_succ_self _, Weak_keep 0 hm [0, 1, 5] [] _ _ rfl rfl rfl, _, rfl, rfl, h⟩
      · have h := iteF hb2 h
        refine ACode_exit ?_
        cases h
        exact ⟨_, rfl, Weak_keep 0 hm [] [] _ _ rfl rfl rfl⟩
  rintro E' H' ⟨s6, rfl, hw⟩
  refine ACode_weak hw ?_
  have h := hks6
  refine ACode_seq (ACode_region ?_)
  refine AOps_q 4 _ rfl rfl rfl (QOp_assign _ _ rfl rfl) ?_
  refine AOps_nil ?_
  refine ACode_ret ?_
  cases h
  exact ⟨_, _, fun r a w h => ⟨r, h⟩, _, _, [], _, (.cons (ResV_tmp _ _ rfl) .nil), rfl, rfl, rfl, rfl, rfl⟩

-- loop.example/g01362/spec.l01Given
def spec_l01Given (k : Nat) (p0 : Col) (p1 : Int) (p2 : List Int) : Option (Int) :=
  ((spec_l01Is k p0).bind fun r1 => (if !r1 then some (.inr 1) else ((if !(spec_l01In p1 0 (w64 (p0.k - 1))) then some true else (spec_l01All k p2 p0.p).bind fun r5 => some (!r5)) : Option (Bool)).bind fun s6 => (if s6 then some (.inr 2) else some (.inl ()))) : Option (Sum (Unit) (Int))).bind fun os8 => (match os8 with | .inl s8 => some 0 | .inr rr => some rr)
set_option maxRecDepth 100000 in
theorem spec_l01Given_ac (k : Nat) (p0 : Col) (p1 : Int) (p2 : List Int) (r : Int) (h : spec_l01Given k p0 p1 p2 = some r) : AC Try.prog 63 [.d (.agg (colD p0)), iV p1, .d (.sl none (intsD p2))] [] (fun res H' => res = [iV r] ∧ H' = []) := by
  refine AC_of_body true Try.func63 rfl Try.ntmps63 (rvs := [.tmp 6]) rfl rfl (fun G hG => ?_)
  have hm : G.H.length = 0 := by rw [hG]; rfl
  have hz : zeroG G.H = true := by rw [hG]; rfl
  unfold spec_l01Given at h
  refine ACode_seq (ACode_region ?_)
  refine AOps_boxI 3 _ _ (.agg (colD p0)) (colD p0) rfl (colD_one _) rfl rfl rfl rfl rfl ?_
  refine AOps_q 6 _ rfl rfl rfl (QOp_assign _ _ rfl rfl) ?_
  refine AOps_nil ?_
  obtain ⟨os8, hss8, hks8⟩ := bindO h
  clear h
  refine ACode_seqJ (fun E' H' => ∃ s8 : Unit, os8 = .inl s8 ∧ Weak 25 G E' H' [] []) ?_ ?_
  · have h := hss8
    clear hss8
    refine ACode_block ?_
    refine ACode_seq (ACode_region ?_)
    refine AOps_q 8 _ rfl rfl rfl (QOp_loadN_pv _ _ _ _ _ _ rfl Try.isAgg24 Try.sizeOf24 rfl (colD_all _) (colD_length _)) ?_
    obtain ⟨r1, hr1, h⟩ := bindO h
    refine AOps_call [] 9 _ _ _ _ _ _ _ _ _ _ rfl rfl rfl rfl rfl rfl rfl Try.call67 rfl (nodupB_sound _ rfl) rfl rfl rfl (spec_l01Is_ac k p0 _ hr1) ?_
    rintro _ _ ⟨rfl, rfl⟩
    refine ⟨(fun _ h => nomatch h), (allc (trivial) (fun _ h => nomatch h)), AOps_as 9 (v' := bV r1) (H' := []) rfl rfl ?_⟩
    refine AOps_q 10 _ rfl rfl rfl (QOp_not _ _ _ rfl rfl) ?_
    refine AOps_q 7 _ rfl rfl rfl (QOp_assign _ _ rfl rfl) ?_
    refine AOps_nil ?_
    refine ACode_cond _ rfl (fun hb2 => ?_) (fun hb2 => ?_)
    · have h := iteT hb2 h
      refine ACode_seq (ACode_region ?_)
      refine AOps_q 6 _ rfl rfl rfl (QOp_assign _ _ rfl rfl) ?_
      refine AOps_nil ?_
      refine ACode_ret ?_
      cases h
      have h := hks8
      cases h
      exact ⟨_, _, fun r a w h => ⟨r, h⟩, _, _, [], _, (.cons (ResV_tmp _ _ rfl) .nil), rfl, rfl, rfl, rfl, rfl⟩
    · have h := iteF hb2 h
      obtain ⟨s6, hss6, hks6⟩ := bindO h
      clear h
      refine ACode_seqJ (fun E' H' => Weak 25 G E' H' [(11, bV s6)] []) ?_ ?_
      · have h := hss6
        clear hss6
        refine (ACode_region ?_)
        refine AOps_q 12 _ rfl rfl rfl (QOp_move _ _ rfl rfl) ?_
        refine AOps_q 13 _ rfl rfl rfl (QOp_fieldAddr_pv _ _ _ _ _ 1 _ _ rfl Try.underlying24 rfl _ Try.sizeOf2 rfl rfl) ?_
        refine AOps_q 14 _ rfl rfl rfl (QOp_load_pv _ _ _ _ _ rfl Try.isAgg2 rfl rfl) ?_
        refine AOps_q 15 _ rfl rfl rfl (QOp_sub _ _ _ _ _ _ _ rfl rfl rfl) ?_
        refine AOps_call [] 16 _ _ _ _ _ _ _ _ _ _ rfl rfl rfl rfl rfl rfl rfl Try.call100 rfl (nodupB_sound _ rfl) rfl rfl rfl (spec_l01In_ac p1 0 (w64 (p0.k - 1))) ?_
        rintro _ _ ⟨rfl, rfl⟩
        refine ⟨(fun _ h => nomatch h), (allc (trivial) (fun _ h => nomatch h)), AOps_as 16 (v' := bV (spec_l01In p1 0 (w64 (p0.k - 1)))) (H' := []) rfl rfl ?_⟩
        refine AOps_q 17 _ rfl rfl rfl (QOp_not _ _ _ rfl rfl) ?_
        refine AOps_q 18 _ rfl rfl rfl (QOp_move _ _ rfl rfl) ?_
        refine AOps_case 18 _ rfl (fun hb4 => ?_) (fun hb4 => ?_)
        · have h := iteT hb4 h
          refine AOps_skip 19 rfl rfl rfl ?_
          refine AOps_skip 20 rfl rfl rfl ?_
          refine AOps_skip 21 rfl rfl rfl ?_
          refine AOps_skip 22 rfl rfl rfl ?_
          refine AOps_skip 23 rfl rfl rfl ?_
          refine AOps_q 24 _ rfl rfl rfl (QOp_pick_t _ _ _ _ rfl rfl rfl) ?_
          refine AOps_q 11 _ rfl rfl rfl (QOp_assign _ _ rfl rfl) ?_
          refine AOps_nil ?_
          cases h
          exact Weak_keep 0 hm [11] [] _ _ rfl rfl rfl
        · have h := iteF hb4 h
          refine AOps_q 19 _ rfl rfl rfl (QOp_move _ _ rfl rfl) ?_
          refine AOps_q 20 _ rfl rfl rfl (QOp_fieldAddr_pv _ _ _ _ _ 0 _ _ rfl Try.underlying24 rfl _ Try.sizeOf2 rfl rfl) ?_
          refine AOps_q 21 _ rfl rfl rfl (QOp_load_pv _ _ _ _ _ rfl Try.isAgg2 rfl rfl) ?_
          obtain ⟨r5, hr5, h⟩ := bindO h
          refine AOps_call [] 22 _ _ _ _ _ _ _ _ _ _ rfl rfl rfl rfl rfl rfl rfl Try.call108 rfl (nodupB_sound _ rfl) rfl rfl rfl (spec_l01All_ac k p2 p0.p _ hr5) ?_
          rintro _ _ ⟨rfl, rfl⟩
          refine ⟨(fun _ h => nomatch h), (allc (trivial) (fun _ h => nomatch h)), AOps_as 22 (v' := bV r5) (H' := []) rfl rfl ?_⟩
          refine AOps_q 23 _ rfl rfl rfl (QOp_not _ _ _ rfl rfl) ?_
          refine AOps_q 24 _ rfl rfl rfl (QOp_pick_f _ _ _ _ rfl rfl rfl) ?_
          refine AOps_q 11 _ rfl rfl rfl (QOp_assign _ _ rfl rfl) ?_
          refine AOps_nil ?_
          cases h
          exact Weak_keep 0 hm [11] [] _ _ rfl rfl rfl
      intro E' H' hw
      refine ACode_weak hw ?_
      have h := hks6
      refine ACode_cond _ rfl (fun hb7 => ?_) (fun hb7 => ?_)
      · have h := iteT hb7 h
        refine ACode_seq (ACode_region ?_)
        refine AOps_q 6 _ rfl rfl rfl (QOp_assign _ _ rfl rfl) ?_
        refine AOps_nil ?_
        refine ACode_ret ?_
        cases h
        have h := hks8
        cases h
        exact ⟨_, _, fun r a w h => ⟨r, h⟩, _, _, [], _, (.cons (ResV_tmp _ _ rfl) .nil), rfl, rfl, rfl, rfl, rfl⟩
      · have h := iteF hb7 h
        refine ACode_skip ?_
        cases h
        exact ⟨_, rfl, Weak_keep 0 hm [] [] _ _ rfl rfl rfl⟩
  rintro E' H' ⟨s8, rfl, hw⟩
  refine ACode_weak hw ?_
  have h := hks8
  refine ACode_seq (ACode_region ?_)
  refine AOps_q 6 _ rfl rfl rfl (QOp_assign _ _ rfl rfl) ?_
  refine AOps_nil ?_
  refine ACode_ret ?_
  cases h
  exact ⟨_, _, fun r a w h => ⟨r, h⟩, _, _, [], _, (.cons (ResV_tmp _ _ rfl) .nil), rfl, rfl, rfl, rfl, rfl⟩

-- loop.example/g01362/spec.l01Set
def spec_l01Set_l0 (p1 : List Int) : Nat → Int → Option (Sum (Unit) (Int))
  | 0, _ => none
  | k0 + 1, x3 => (if decide (x3 < (p1.length : Int)) then (if 0 ≤ x3 ∧ x3 < (p1.length : Int) then (if 0 ≤ w64 (x3 - 1) ∧ w64 (x3 - 1) < (p1.length : Int) then (if decide ((p1.getD x3.toNat 0) ≤ (p1.getD (w64 (x3 - 1)).toNat 0)) then some (.inr 2) else spec_l01Set_l0 p1 k0 (w64 (x3 + 1))) else none) else none) else some (.inl ()))
def spec_l01Set (k : Nat) (p0 : Col) (p1 : List Int) : Option (Int) :=
  (spec_l01Given k p0 0 p1).bind fun r1 => (if !decide (r1 = 0) then some r1 else (spec_l01Set_l0 p1 k 1 : Option (Sum (Unit) (Int))).bind fun os8 => (match os8 with | .inl s8 => some 0 | .inr rr => some rr))
set_option maxRecDepth 100000 in
theorem spec_l01Set_ac (k : Nat) (p0 : Col) (p1 : List Int) (r : Int) (h : spec_l01Set k p0 p1 = some r) : AC Try.prog 56 [.d (.agg (colD p0)), .d (.sl none (intsD p1))] [] (fun res H' => res = [iV r] ∧ H' = []) := by
  refine AC_of_body true Try.func56 rfl Try.ntmps56 (rvs := [.tmp 4]) rfl rfl (fun G hG => ?_)
  have hm : G.H.length = 0 := by rw [hG]; rfl
  have hz : zeroG G.H = true := by rw [hG]; rfl
  unfold spec_l01Set at h
  refine ACode_seq (ACode_region ?_)
  refine AOps_boxI 2 _ _ (.agg (colD p0)) (colD p0) rfl (colD_one _) rfl rfl rfl rfl rfl ?_
  refine AOps_q 4 _ rfl rfl rfl (QOp_assign _ _ rfl rfl) ?_
  refine AOps_nil ?_
  refine ACode_seq ?_
  refine ACode_seq (ACode_region ?_)
  refine AOps_q 7 _ rfl rfl rfl (QOp_loadN_pv _ _ _ _ _ _ rfl Try.isAgg24 Try.sizeOf24 rfl (colD_all _) (colD_length _)) ?_
  refine AOps_q 8 _ rfl rfl rfl (QOp_move _ _ rfl rfl) ?_
  obtain ⟨r1, hr1, h⟩ := bindO h
  refine AOps_call [] 9 _ _ _ _ _ _ _ _ _ _ rfl rfl rfl rfl rfl rfl rfl Try.call63 rfl (nodupB_sound _ rfl) rfl rfl rfl (spec_l01Given_ac k p0 0 p1 _ hr1) ?_
  rintro _ _ ⟨rfl, rfl⟩
  refine ⟨(fun _ h => nomatch h), (allc (trivial) (fun _ h => nomatch h)), AOps_as 9 (v' := iV r1) (H' := []) rfl rfl ?_⟩
  refine AOps_q 5 _ rfl rfl rfl (QOp_assign _ _ rfl rfl) ?_
  refine AOps_nil ?_
  refine ACode_seq (ACode_region ?_)
  refine AOps_q 10 _ rfl rfl rfl (QOp_move _ _ rfl rfl) ?_
  refine AOps_q 11 _ rfl rfl rfl (QOp_neq _ _ _ _ _ _ _ rfl rfl rfl) ?_
  refine AOps_nil ?_
  refine ACode_cond _ rfl (fun hb2 => ?_) (fun hb2 => ?_)
  · have h := iteT hb2 h
    refine ACode_seq (ACode_region ?_)
    refine AOps_q 12 _ rfl rfl rfl (QOp_move _ _ rfl rfl) ?_
    refine AOps_q 4 _ rfl rfl rfl (QOp_assign _ _ rfl rfl) ?_
    refine AOps_nil ?_
    refine ACode_ret ?_
    cases h
    exact ⟨_, _, fun r a w h => ⟨r, h⟩, _, _, [], _, (.cons (ResV_tmp _ _ rfl) .nil), rfl, rfl, rfl, rfl, rfl⟩
  · have h := iteF hb2 h
    refine ACode_skip ?_
    obtain ⟨os8, hss8, hks8⟩ := bindO h
    clear h
    refine ACode_seqJ (fun E' H' => ∃ s8 : Unit, os8 = .inl s8 ∧ Weak 29 G E' H' [] []) ?_ ?_
    · have h := hss8
      clear hss8
      refine ACode_seq (ACode_region ?_)
      refine AOps_q 6 _ rfl rfl rfl (QOp_assign _ _ rfl rfl) ?_
      refine AOps_nil ?_
      refine ACode_block ?_
      refine ACode_loopW (fun k0 E H => ∃ (x3 : Int), E = [(1, .d (.sl none (intsD p1))), (6, iV x3)] ∧ H = [] ∧ spec_l01Set_l0 p1 k0 x3 = some os8) k _ _ (Weak_keep 0 hm [1, 6] [] _ _ rfl rfl rfl) ⟨_, rfl, rfl, h⟩ ?_
      clear h
      rintro k0 E H ⟨x3, rfl, rfl, h⟩
      cases k0 with
      | zero => cases (show (none : Option (Sum (Unit) (Int))) = some _ from h)
      | succ k0 =>
        rw [spec_l01Set_l0] at h
        refine ACode_seq ?_
        refine ACode_seq (ACode_region ?_)
        refine AOps_q 13 _ rfl rfl rfl (QOp_move _ _ rfl rfl) ?_
        refine AOps_q 14 _ rfl rfl rfl (QOp_move _ _ rfl rfl) ?_
        refine AOps_q 15 _ rfl rfl rfl (QOp_len_sl _ _ _ _ _ _ _ (intsD_length _) rfl rfl rfl rfl Try.underlying38 rfl) ?_
        refine AOps_q 16 _ rfl rfl rfl (QOp_lss _ _ _ _ _ _ _ rfl rfl rfl) ?_
        refine AOps_nil ?_
        refine ACode_cond _ rfl (fun hb4 => ?_) (fun hb4 => ?_)
        · have h := iteT hb4 h
          refine ACode_skip ?_
          refine ACode_seq ?_
          refine ACode_block ?_
          refine ACode_seq (ACode_quiet mixed (by kernel_rfl) ?_)
          refine AQ_q 19 _ rfl rfl rfl (QOp_move _ _ rfl rfl) ?_
          refine AQ_q 20 _ rfl rfl rfl (QOp_move _ _ rfl rfl) ?_
          obtain ⟨hc5, h⟩ := guardO h
          refine AQ_q 21 _ rfl rfl rfl (QOp_indexAddr_sl _ _ _ _ _ _ _ _ rfl Try.underlying38 Try.sizeOf2 hc5.1 (by rw [intsD_length]; exact hc5.2) rfl rfl) ?_
          refine AQ_q 22 _ rfl rfl rfl (QOp_load_pv _ _ _ _ _ rfl Try.isAgg2 rfl (intsD_get _ _ 0 (by omega))) ?_
          refine AQ_q 23 _ rfl rfl rfl (QOp_move _ _ rfl rfl) ?_
          refine AQ_q 24 _ rfl rfl rfl (QOp_move _ _ rfl rfl) ?_
          refine AQ_q 25 _ rfl rfl rfl (QOp_sub _ _ _ _ _ _ _ rfl rfl rfl) ?_
          obtain ⟨hc6, h⟩ := guardO h
          refine AQ_q 26 _ rfl rfl rfl (QOp_indexAddr_sl _ _ _ _ _ _ _ _ rfl Try.underlying38 Try.sizeOf2 hc6.1 (by rw [intsD_length]; exact hc6.2) rfl rfl) ?_
          refine AQ_q 27 _ rfl rfl rfl (QOp_load_pv _ _ _ _ _ rfl Try.isAgg2 rfl (intsD_get _ _ 0 (by omega))) ?_
          refine AQ_q 28 _ rfl rfl rfl (QOp_leq _ _ _ _ _ _ _ rfl rfl rfl) ?_
          refine AQ_nil ?_
          refine ACode_cond _ rfl (fun hb7 => ?_) (fun hb7 => ?_)
          · have h := iteT hb7 h
            refine ACode_seq (ACode_region ?_)
            refine AOps_q 4 _ rfl rfl rfl (QOp_assign _ _ rfl rfl) ?_
            refine AOps_nil ?_
            refine ACode_ret ?_
            cases h
            have h := hks8
            cases h
            exact ⟨_, _, fun r a w h => ⟨r, h⟩, _, _, [], _, (.cons (ResV_tmp _ _ rfl) .nil), rfl, rfl, rfl, rfl, rfl⟩
          · have h := iteF hb7 h
            refine ACode_skip ?_
            refine (ACode_region ?_)
            refine AOps_q 17 _ rfl rfl rfl (QOp_move _ _ rfl rfl) ?_
            refine AOps_q 18 _ rfl rfl rfl (QOp_add _ _ _ _ _ _ _ rfl rfl rfl) ?_
            refine AOps_q 6 _ rfl rfl rfl (QOp_assign _ _ rfl rfl) ?_
            refine AOps_nil ?_
            exact ⟨k0, _, _, Nat.lt_succ_self _, Weak_keep 0 hm [1, 6] [] _ _ rfl rfl rfl, _, rfl, rfl, h⟩
        · have h := iteF hb4 h
          refine ACode_exit ?_
          cases h
          exact ⟨_, rfl, Weak_keep 0 hm [] [] _ _ rfl rfl rfl⟩
    rintro E' H' ⟨s8, rfl, hw⟩
    refine ACode_weak hw ?_
    have h := hks8
    refine ACode_seq (ACode_region ?_)
    refine AOps_q 4 _ rfl rfl rfl (QOp_assign _ _ rfl rfl) ?_
    refine AOps_nil ?_
    refine ACode_ret ?_
    cases h
    exact ⟨_, _, fun r a w h => ⟨r, h⟩, _, _, [], _, (.cons (ResV_tmp _ _ rfl) .nil), rfl, rfl, rfl, rfl, rfl⟩

-- loop.example/g01362/spec.l01Edge
def spec_l01Edge (p0 : Int) (p1 : Int) : Int :=
  (if decide (p1 < p0) then w64 ((w64 ((w64 (p0 * (w64 (p0 - 1)))).tdiv 2)) + p1) else w64 ((w64 ((w64 (p1 * (w64 (p1 - 1)))).tdiv 2)) + p0))
set_option maxRecDepth 100000 in
theorem spec_l01Edge_ac (p0 : Int) (p1 : Int) : AC Try.prog 109 [iV p0, iV p1] [] (fun res H' => res = [iV (spec_l01Edge p0 p1)] ∧ H' = []) := by
  refine AC_of_body true Try.func109 rfl Try.ntmps109 (rvs := [.tmp 4]) rfl rfl (fun G hG => ?_)
  have hm : G.H.length = 0 := by rw [hG]; rfl
  have hz : zeroG G.H = true := by rw [hG]; rfl
  obtain ⟨r, h⟩ : ∃ r, spec_l01Edge p0 p1 = r := ⟨_, rfl⟩
  rw [h]
  unfold spec_l01Edge at h
  refine ACode_seq (ACode_region ?_)
  refine AOps_q 4 _ rfl rfl rfl (QOp_assign _ _ rfl rfl) ?_
  refine AOps_nil ?_
  refine ACode_seq ?_
  refine ACode_seq (ACode_region ?_)
  refine AOps_q 5 _ rfl rfl rfl (QOp_move _ _ rfl rfl) ?_
  refine AOps_q 6 _ rfl rfl rfl (QOp_move _ _ rfl rfl) ?_
  refine AOps_q 7 _ rfl rfl rfl (QOp_gtr _ _ _ _ _ _ _ rfl rfl rfl) ?_
  refine AOps_nil ?_
  refine ACode_cond _ rfl (fun hb1 => ?_) (fun hb1 => ?_)
  · have h := iteT hb1 h
    refine ACode_seq (ACode_region ?_)
    refine AOps_q 8 _ rfl rfl rfl (QOp_move _ _ rfl rfl) ?_
    refine AOps_q 9 _ rfl rfl rfl (QOp_move _ _ rfl rfl) ?_
    refine AOps_q 10 _ rfl rfl rfl (QOp_sub _ _ _ _ _ _ _ rfl rfl rfl) ?_
    refine AOps_q 11 _ rfl rfl rfl (QOp_mul _ _ _ _ _ _ _ rfl rfl rfl) ?_
    refine AOps_q 12 _ rfl rfl rfl (QOp_quo _ _ _ _ _ _ _ (by decide) rfl rfl rfl) ?_
    refine AOps_q 13 _ rfl rfl rfl (QOp_move _ _ rfl rfl) ?_
    refine AOps_q 14 _ rfl rfl rfl (QOp_add _ _ _ _ _ _ _ rfl rfl rfl) ?_
    refine AOps_q 4 _ rfl rfl rfl (QOp_assign _ _ rfl rfl) ?_
    refine AOps_nil ?_
    refine ACode_ret ?_
    cases h
    exact ⟨_, _, fun r a w h => ⟨r, h⟩, _, _, [], _, (.cons (ResV_tmp _ _ rfl) .nil), rfl, rfl, rfl, rfl, rfl⟩
  · have h := iteF hb1 h
    refine ACode_skip ?_
    refine ACode_seq (ACode_region ?_)
    refine AOps_q 15 _ rfl rfl rfl (QOp_move _ _ rfl rfl) ?_
    refine AOps_q 16 _ rfl rfl rfl (QOp_move _ _ rfl rfl) ?_
    refine AOps_q 17 _ rfl rfl rfl (QOp_sub _ _ _ _ _ _ _ rfl rfl rfl) ?_
    refine AOps_q 18 _ rfl rfl rfl (QOp_mul _ _ _ _ _ _ _ rfl rfl rfl) ?_
    refine AOps_q 19 _ rfl rfl rfl (QOp_quo _ _ _ _ _ _ _ (by decide) rfl rfl rfl) ?_
    refine AOps_q 20 _ rfl rfl rfl (QOp_move _ _ rfl rfl) ?_
    refine AOps_q 21 _ rfl rfl rfl (QOp_add _ _ _ _ _ _ _ rfl rfl rfl) ?_
    refine AOps_q 4 _ rfl rfl rfl (QOp_assign _ _ rfl rfl) ?_
    refine AOps_nil ?_
    refine ACode_ret ?_
    cases h
    exact ⟨_, _, fun r a w h => ⟨r, h⟩, _, _, [], _, (.cons (ResV_tmp _ _ rfl) .nil), rfl, rfl, rfl, rfl, rfl⟩

-- loop.example/g01362/spec.l01At
def spec_l01At (p0 : Col) (p1 : Int) (p2 : Int) : Option (Int) :=
  (if 0 ≤ (spec_l01Edge p1 p2) ∧ (spec_l01Edge p1 p2) < 136 then some ((p0.get ((spec_l01Edge p1 p2).toNat)).toNat : Int) else none)
set_option maxRecDepth 100000 in
theorem spec_l01At_ac (p0 : Col) (p1 : Int) (p2 : Int) (r : Int) (h : spec_l01At p0 p1 p2 = some r) : AC Try.prog 64 [.d (.agg (colD p0)), iV p1, iV p2] [] (fun res H' => res = [iV r] ∧ H' = []) := by
  refine AC_of_body true Try.func64 rfl Try.ntmps64 (rvs := [.tmp 6]) rfl rfl (fun G hG => ?_)
  have hm : G.H.length = 0 := by rw [hG]; rfl
  have hz : zeroG G.H = true := by rw [hG]; rfl
  unfold spec_l01At at h
  refine ACode_seq (ACode_region ?_)
  refine AOps_boxI 3 _ _ (.agg (colD p0)) (colD p0) rfl (colD_one _) rfl rfl rfl rfl rfl ?_
  refine AOps_q 6 _ rfl rfl rfl (QOp_assign _ _ rfl rfl) ?_
  refine AOps_nil ?_
  refine ACode_seq (ACode_region ?_)
  refine AOps_q 7 _ rfl rfl rfl (QOp_move _ _ rfl rfl) ?_
  refine AOps_q 8 _ rfl rfl rfl (QOp_move _ _ rfl rfl) ?_
  refine AOps_call [] 9 _ _ _ _ _ _ _ _ _ _ rfl rfl rfl rfl rfl rfl rfl Try.call109 rfl (nodupB_sound _ rfl) rfl rfl rfl (spec_l01Edge_ac p1 p2) ?_
  rintro _ _ ⟨rfl, rfl⟩
  refine ⟨(fun _ h => nomatch h), (allc (trivial) (fun _ h => nomatch h)), AOps_as 9 (v' := iV (spec_l01Edge p1 p2)) (H' := []) rfl rfl ?_⟩
  refine AOps_q 10 _ rfl rfl rfl (QOp_fieldAddr_pv _ _ _ _ _ 2 _ _ rfl Try.underlying24 rfl _ Try.sizeOf22 rfl rfl) ?_
  obtain ⟨hc2, h⟩ := guardO h
  refine AOps_q 11 _ rfl rfl rfl (QOp_indexAddrA_pv _ _ _ _ _ _ _ _ _ rfl Try.underlying22 Try.sizeOf5 hc2.1 hc2.2 rfl rfl) ?_
  refine AOps_q 12 _ rfl rfl rfl (QOp_load_pv _ _ _ _ _ rfl Try.isAgg5 rfl (colD_get _ _ (by omega))) ?_
  refine AOps_q 13 _ rfl rfl rfl (QOp_fromByte _ _ _ _ _ rfl rfl Try.underlying2 wrap_i64_byte rfl) ?_
  refine AOps_q 6 _ rfl rfl rfl (QOp_assign _ _ rfl rfl) ?_
  refine AOps_nil ?_
  refine ACode_ret ?_
  cases h
  exact ⟨_, _, fun r a w h => ⟨r, h⟩, _, _, [], _, (.cons (ResV_tmp _ _ rfl) .nil), rfl, rfl, rfl, rfl, rfl⟩

-- loop.example/g01362/spec.l10Lesser
def spec_l10Lesser_l1 (p0 : Col) (p1 : List Int) (x1 : Int) : Nat → Int → Option (Sum (Unit) (Sum (Unit) (Bool)))
  | 0, _ => none
  | k1 + 1, x3 => (if decide (x3 < (p1.length : Int)) then (if 0 ≤ x1 ∧ x1 < (p1.length : Int) then (if 0 ≤ x3 ∧ x3 < (p1.length : Int) then (spec_l01At p0 (p1.getD x1.toNat 0) (p1.getD x3.toNat 0)).bind fun r7 => (if 0 ≤ x1 ∧ x1 < (p1.length : Int) then (if 0 ≤ w64 (x1 + 1) ∧ w64 (x1 + 1) < (p1.length : Int) then (spec_l01At p0 (p1.getD x1.toNat 0) (p1.getD (w64 (x1 + 1)).toNat 0)).bind fun r10 => (if !decide (r7 = r10) then (some (.inr false)).bind fun rr => some (.inr rr) else spec_l10Lesser_l1 p0 p1 x1 k1 (w64 (x3 + 1))) else none) else none) else none) else none) else some (.inl ()))
def spec_l10Lesser_l0 (k : Nat) (p0 : Col) (p1 : List Int) : Nat → Int → Option (Sum (Unit) (Bool))
  | 0, _ => none
  | k0 + 1, x1 => (if decide (x1 < (p1.length : Int)) then (spec_l10Lesser_l1 p0 p1 x1 k (w64 (x1 + 2)) : Option (Sum (Unit) (Sum (Unit) (Bool)))).bind fun os12 => (match os12 with | .inl s12 => spec_l10Lesser_l0 k p0 p1 k0 (w64 (x1 + 1)) | .inr rr => some rr) else some (.inl ()))
def spec_l10Lesser (k : Nat) (p0 : Col) (p1 : List Int) : Option (Bool) :=
  (spec_l10Lesser_l0 k p0 p1 k 0 : Option (Sum (Unit) (Bool))).bind fun os13 => (match os13 with | .inl s13 => some true | .inr rr => some rr)
set_option maxRecDepth 100000 in
theorem spec_l10Lesser_ac (k : Nat) (p0 : Col) (p1 : List Int) (r : Bool) (h : spec_l10Lesser k p0 p1 = some r) : AC Try.prog 57 [.d (.agg (colD p0)), .d (.sl none (intsD p1))] [] (fun res H' => res = [bV r] ∧ H' = []) := by
  refine AC_of_body true Try.func57 rfl Try.ntmps57 (rvs := [.tmp 4]) rfl rfl (fun G hG => ?_)
  have hm : G.H.length = 0 := by rw [hG]; rfl
  have hz : zeroG G.H = true := by rw [hG]; rfl
  unfold spec_l10Lesser at h
  refine ACode_seq (ACode_region ?_)
  refine AOps_boxI 2 _ _ (.agg (colD p0)) (colD p0) rfl (colD_one _) rfl rfl rfl rfl rfl ?_
  refine AOps_q 4 _ rfl rfl rfl (QOp_assign _ _ rfl rfl) ?_
  refine AOps_nil ?_
  obtain ⟨os13, hss13, hks13⟩ := bindO h
  clear h
  refine ACode_seqJ (fun E' H' => ∃ s13 : Unit, os13 = .inl s13 ∧ Weak 43 G E' H' [] []) ?_ ?_
  · have h := hss13
    clear hss13
    refine ACode_seq (ACode_region ?_)
    refine AOps_q 5 _ rfl rfl rfl (QOp_assign _ _ rfl rfl) ?_
    refine AOps_nil ?_
    refine ACode_block ?_
    refine ACode_loopW (fun k0 E H => ∃ (x1 : Int), E = [(1, .d (.sl none (intsD p1))), (2, .d (.pv (colD p0) 0)), (5, iV x1)] ∧ H = [] ∧ spec_l10Lesser_l0 k p0 p1 k0 x1 = some os13) k _ _ (Weak_keep 0 hm [1, 2, 5] [] _ _ rfl rfl rfl) ⟨_, rfl, rfl, h⟩ ?_
    clear h
    rintro k0 E H ⟨x1, rfl, rfl, h⟩
    cases k0 with
    | zero => cases (show (none : Option (Sum (Unit) (Bool))) = some _ from h)
    | succ k0 =>
      rw [spec_l10Lesser_l0] at h
      refine ACode_seq ?_
      refine ACode_seq (ACode_region ?_)
      refine AOps_q 7 _ rfl rfl rfl (QOp_move _ _ rfl rfl) ?_
      refine AOps_q 8 _ rfl rfl rfl (QOp_move _ _ rfl rfl) ?_
      refine AOps_q 9 _ rfl rfl rfl (QOp_len_sl _ _ _ _ _ _ _ (intsD_length _) rfl rfl rfl rfl Try.underlying38 rfl) ?_
      refine AOps_q 10 _ rfl rfl rfl (QOp_lss _ _ _ _ _ _ _ rfl rfl rfl) ?_
      refine AOps_nil ?_
      refine ACode_cond _ rfl (fun hb2 => ?_) (fun hb2 => ?_)
      · have h := iteT hb2 h
        refine ACode_skip ?_
        obtain ⟨os12, hss12, hks12⟩ := bindO h
        clear h
        refine ACode_seqJ (fun E' H' => ∃ s12 : Unit, os12 = .inl s12 ∧ Weak 43 G E' H' [(1, .d (.sl none (intsD p1))), (2, .d (.pv (colD p0) 0)), (5, iV x1)] []) ?_ ?_
        · have h := hss12
          clear hss12
          refine ACode_block ?_
          refine ACode_seq (ACode_region ?_)
          refine AOps_q 13 _ rfl rfl rfl (QOp_move _ _ rfl rfl) ?_
          refine AOps_q 14 _ rfl rfl rfl (QOp_add _ _ _ _ _ _ _ rfl rfl rfl) ?_
          refine AOps_q 6 _ rfl rfl rfl (QOp_assign _ _ rfl rfl) ?_
          refine AOps_nil ?_
          refine ACode_block ?_
          refine ACode_loopW (fun k1 E H => ∃ (x3 : Int), E = [(1, .d (.sl none (intsD p1))), (2, .d (.pv (colD p0) 0)), (5, iV x1), (6, iV x3)] ∧ H = [] ∧ spec_l10Lesser_l1 p0 p1 x1 k1 x3 = some os12) k _ _ (Weak_keep 0 hm [1, 2, 5, 6] [] _ _ rfl rfl rfl) ⟨_, rfl, rfl, h⟩ ?_
          clear h
          rintro k1 E H ⟨x3, rfl, rfl, h⟩
          cases k1 with
          | zero => cases (show (none : Option (Sum (Unit) (Sum (Unit) (Bool)))) = some _ from h)
          | succ k1 =>
            rw [spec_l10Lesser_l1] at h
            refine ACode_seq ?_
            refine ACode_seq (ACode_region ?_)
            refine AOps_q 15 _ rfl rfl rfl (QOp_move _ _ rfl rfl) ?_
            refine AOps_q 16 _ rfl rfl rfl (QOp_move _ _ rfl rfl) ?_
            refine AOps_q 17 _ rfl rfl rfl (QOp_len_sl _ _ _ _ _ _ _ (intsD_length _) rfl rfl rfl rfl Try.underlying38 rfl) ?_
            refine AOps_q 18 _ rfl rfl rfl (QOp_lss _ _ _ _ _ _ _ rfl rfl rfl) ?_
            refine AOps_nil ?_
            refine ACode_cond _ rfl (fun hb4 => ?_) (fun hb4 => ?_)
            · have h := iteT hb4 h
              refine ACode_skip ?_
              refine ACode_seq ?_
              refine ACode_block ?_
              refine ACode_seq (ACode_quiet mixed (by kernel_rfl) ?_)
              refine AQ_q 21 _ rfl rfl rfl (QOp_loadN_pv _ _ _ _ _ _ rfl Try.isAgg24 Try.sizeOf24 rfl (colD_all _) (colD_length _)) ?_
              refine AQ_q 22 _ rfl rfl rfl (QOp_move _ _ rfl rfl) ?_
              refine AQ_q 23 _ rfl rfl rfl (QOp_move _ _ rfl rfl) ?_
              obtain ⟨hc5, h⟩ := guardO h
              refine AQ_q 24 _ rfl rfl rfl (QOp_indexAddr_sl _ _ _ _ _ _ _ _ rfl Try.underlying38 Try.sizeOf2 hc5.1 (by rw [intsD_length]; exact hc5.2) rfl rfl) ?_
              refine AQ_q 25 _ rfl rfl rfl (QOp_load_pv _ _ _ _ _ rfl Try.isAgg2 rfl (intsD_get _ _ 0 (by omega))) ?_
              refine AQ_q 26 _ rfl rfl rfl (QOp_move _ _ rfl rfl) ?_
              refine AQ_q 27 _ rfl rfl rfl (QOp_move _ _ rfl rfl) ?_
              obtain ⟨hc6, h⟩ := guardO h
              refine AQ_q 28 _ rfl rfl rfl (QOp_indexAddr_sl _ _ _ _ _ _ _ _ rfl Try.underlying38 Try.sizeOf2 hc6.1 (by rw [intsD_length]; exact hc6.2) rfl rfl) ?_
              refine AQ_q 29 _ rfl rfl rfl (QOp_load_pv _ _ _ _ _ rfl Try.isAgg2 rfl (intsD_get _ _ 0 (by omega))) ?_
              obtain ⟨r7, hr7, h⟩ := bindO h
              refine AQ_call 30 _ _ _ _ _ _ _ _ _ rfl rfl rfl rfl rfl rfl rfl Try.call64 rfl rfl rfl (spec_l01At_ac p0 (p1.getD x1.toNat 0) (p1.getD x3.toNat 0) _ hr7) ?_
              refine AQ_q 31 _ rfl rfl rfl (QOp_loadN_pv _ _ _ _ _ _ rfl Try.isAgg24 Try.sizeOf24 rfl (colD_all _) (colD_length _)) ?_
              refine AQ_q 32 _ rfl rfl rfl (QOp_move _ _ rfl rfl) ?_
              refine AQ_q 33 _ rfl rfl rfl (QOp_move _ _ rfl rfl) ?_
              obtain ⟨hc8, h⟩ := guardO h
              refine AQ_q 34 _ rfl rfl rfl (QOp_indexAddr_sl _ _ _ _ _ _ _ _ rfl Try.underlying38 Try.sizeOf2 hc8.1 (by rw [intsD_length]; exact hc8.2) rfl rfl) ?_
              refine AQ_q 35 _ rfl rfl rfl (QOp_load_pv _ _ _ _ _ rfl Try.isAgg2 rfl (intsD_get _ _ 0 (by omega))) ?_
              refine AQ_q 36 _ rfl rfl rfl (QOp_move _ _ rfl rfl) ?_
              refine AQ_q 37 _ rfl rfl rfl (QOp_move _ _ rfl rfl) ?_
              refine AQ_q 38 _ rfl rfl rfl (QOp_add _ _ _ _ _ _ _ rfl rfl rfl) ?_
              obtain ⟨hc9, h⟩ := guardO h
              refine AQ_q 39 _ rfl rfl rfl (QOp_indexAddr_sl _ _ _ _ _ _ _ _ rfl Try.underlying38 Try.sizeOf2 hc9.1 (by rw [intsD_length]; exact hc9.2) rfl rfl) ?_
              refine AQ_q 40 _ rfl rfl rfl (QOp_load_pv _ _ _ _ _ rfl Try.isAgg2 rfl (intsD_get _ _ 0 (by omega))) ?_
              obtain ⟨r10, hr10, h⟩ := bindO h
              refine AQ_call 41 _ _ _ _ _ _ _ _ _ rfl rfl rfl rfl rfl rfl rfl Try.call64 rfl rfl rfl (spec_l01At_ac p0 (p1.getD x1.toNat 0) (p1.getD (w64 (x1 + 1)).toNat 0) _ hr10) ?_
              refine AQ_q 42 _ rfl rfl rfl (QOp_neq _ _ _ _ _ _ _ rfl rfl rfl) ?_
              refine AQ_nil ?_
              refine ACode_cond _ rfl (fun hb11 => ?_) (fun hb11 => ?_)
              · have h := iteT hb11 h
                refine ACode_seq (ACode_region ?_)
                refine AOps_q 4 _ rfl rfl rfl (QOp_assign _ _ rfl rfl) ?_
                refine AOps_nil ?_
                refine ACode_ret ?_
                obtain ⟨rr, hz14, h2⟩ := bindO h
                obtain rfl := Option.some.inj h2
                obtain rfl := Option.some.inj (show some rr = some _ from hks12)
                have h := hz14
                cases h
                have h := hks13
                cases h
                exact ⟨_, _, fun r a w h => ⟨r, h⟩, _, _, [], _, (.cons (ResV_tmp _ _ rfl) .nil), rfl, rfl, rfl, rfl, rfl⟩
              · have h := iteF hb11 h
                refine ACode_skip ?_
                refine (ACode_region ?_)
                refine AOps_q 19 _ rfl rfl rfl (QOp_move _ _ rfl rfl) ?_
                refine AOps_q 20 _ rfl rfl rfl (QOp_add _ _ _ _ _ _ _ rfl rfl rfl) ?_
                refine AOps_q 6 _ rfl rfl rfl (QOp_assign _ _ rfl rfl) ?_
                refine AOps_nil ?_
                exact ⟨k1, _, _, Nat.lt_succ_self _, Weak_keep 0 hm [1, 2, 5, 6] [] _ _ rfl rfl rfl, _, rfl, rfl, h⟩
            · have h := iteF hb4 h
              refine ACode_exit ?_
              cases h
              exact ⟨_, rfl, Weak_keep 0 hm [1, 2, 5] [] _ _ rfl rfl rfl⟩
        rintro E' H' ⟨s12, rfl, hw⟩
        refine ACode_weak hw ?_
        have h := hks12
        refine (ACode_region ?_)
        refine AOps_q 11 _ rfl rfl rfl (QOp_move _ _ rfl rfl) ?_
        refine AOps_q 12 _ rfl rfl rfl (QOp_add _ _ _ _ _ _ _ rfl rfl rfl) ?_
        refine AOps_q 5 _ rfl rfl rfl (QOp_assign _ _ rfl rfl) ?_
        refine AOps_nil ?_
        exact ⟨k0, _, _, Nat.lt_succ_self _, Weak_keep 0 hm [1, 2, 5] [] _ _ rfl rfl rfl, _, rfl, rfl, h⟩
      · have h := iteF hb2 h
        refine ACode_exit ?_
        cases h
        exact ⟨_, rfl, Weak_keep 0 hm [] [] _ _ rfl rfl rfl⟩
  rintro E' H' ⟨s13, rfl, hw⟩
  refine ACode_weak hw ?_
  have h := hks13
  refine ACode_seq (ACode_region ?_)
  refine AOps_q 4 _ rfl rfl rfl (QOp_assign _ _ rfl rfl) ?_
  refine AOps_nil ?_
  refine ACode_ret ?_
  cases h
  exact ⟨_, _, fun r a w h => ⟨r, h⟩, _, _, [], _, (.cons (ResV_tmp _ _ rfl) .nil), rfl, rfl, rfl, rfl, rfl⟩

-- loop.example/g01362/spec.IsLesserColoured
def spec_IsLesserColoured (k : Nat) (p0 : Col) (p1 : List Int) : Option (Bool × Int) :=
  (spec_l01Set k p0 p1).bind fun r1 => (if !decide (r1 = 0) then some (false, r1) else (spec_l10Lesser k p0 p1).bind fun r3 => some (r3, 0))
set_option maxRecDepth 100000 in
theorem spec_IsLesserColoured_ac (k : Nat) (p0 : Col) (p1 : List Int) (r : Bool × Int) (h : spec_IsLesserColoured k p0 p1 = some r) : AC Try.prog 23 [.d (.agg (colD p0)), .d (.sl none (intsD p1))] [] (fun res H' => res = [bV r.1, iV r.2] ∧ H' = []) := by
  refine AC_of_body true Try.func23 rfl Try.ntmps23 (rvs := [.tmp 4, .tmp 5]) rfl rfl (fun G hG => ?_)
  have hm : G.H.length = 0 := by rw [hG]; rfl
  have hz : zeroG G.H = true := by rw [hG]; rfl
  unfold spec_IsLesserColoured at h
  refine ACode_seq (ACode_region ?_)
  refine AOps_boxI 2 _ _ (.agg (colD p0)) (colD p0) rfl (colD_one _) rfl rfl rfl rfl rfl ?_
  refine AOps_q 4 _ rfl rfl rfl (QOp_assign _ _ rfl rfl) ?_
  refine AOps_q 5 _ rfl rfl rfl (QOp_assign _ _ rfl rfl) ?_
  refine AOps_nil ?_
  refine ACode_seq ?_
  refine ACode_seq (ACode_region ?_)
  refine AOps_q 7 _ rfl rfl rfl (QOp_loadN_pv _ _ _ _ _ _ rfl Try.isAgg24 Try.sizeOf24 rfl (colD_all _) (colD_length _)) ?_
  refine AOps_q 8 _ rfl rfl rfl (QOp_move _ _ rfl rfl) ?_
  obtain ⟨r1, hr1, h⟩ := bindO h
  refine AOps_call [] 9 _ _ _ _ _ _ _ _ _ _ rfl rfl rfl rfl rfl rfl rfl Try.call56 rfl (nodupB_sound _ rfl) rfl rfl rfl (spec_l01Set_ac k p0 p1 _ hr1) ?_
  rintro _ _ ⟨rfl, rfl⟩
  refine ⟨(fun _ h => nomatch h), (allc (trivial) (fun _ h => nomatch h)), AOps_as 9 (v' := iV r1) (H' := []) rfl rfl ?_⟩
  refine AOps_q 6 _ rfl rfl rfl (QOp_assign _ _ rfl rfl) ?_
  refine AOps_nil ?_
  refine ACode_seq (ACode_region ?_)
  refine AOps_q 10 _ rfl rfl rfl (QOp_move _ _ rfl rfl) ?_
  refine AOps_q 11 _ rfl rfl rfl (QOp_neq _ _ _ _ _ _ _ rfl rfl rfl) ?_
  refine AOps_nil ?_
  refine ACode_cond _ rfl (fun hb2 => ?_) (fun hb2 => ?_)
  · have h := iteT hb2 h
    refine ACode_seq (ACode_region ?_)
    refine AOps_q 12 _ rfl rfl rfl (QOp_move _ _ rfl rfl) ?_
    refine AOps_q 4 _ rfl rfl rfl (QOp_assign _ _ rfl rfl) ?_
    refine AOps_q 5 _ rfl rfl rfl (QOp_assign _ _ rfl rfl) ?_
    refine AOps_nil ?_
    refine ACode_ret ?_
    cases h
    exact ⟨_, _, fun r a w h => ⟨r, h⟩, _, _, [], _, (.cons (ResV_tmp _ _ rfl) (.cons (ResV_tmp _ _ rfl) .nil)), rfl, rfl, rfl, rfl, rfl⟩
  · have h := iteF hb2 h
    refine ACode_skip ?_
    refine ACode_seq (ACode_region ?_)
    refine AOps_q 13 _ rfl rfl rfl (QOp_loadN_pv _ _ _ _ _ _ rfl Try.isAgg24 Try.sizeOf24 rfl (colD_all _) (colD_length _)) ?_
    refine AOps_q 14 _ rfl rfl rfl (QOp_move _ _ rfl rfl) ?_
    obtain ⟨r3, hr3, h⟩ := bindO h
    refine AOps_call [] 15 _ _ _ _ _ _ _ _ _ _ rfl rfl rfl rfl rfl rfl rfl Try.call57 rfl (nodupB_sound _ rfl) rfl rfl rfl (spec_l10Lesser_ac k p0 p1 _ hr3) ?_
    rintro _ _ ⟨rfl, rfl⟩
    refine ⟨(fun _ h => nomatch h), (allc (trivial) (fun _ h => nomatch h)), AOps_as 15 (v' := bV r3) (H' := []) rfl rfl ?_⟩
    refine AOps_q 4 _ rfl rfl rfl (QOp_assign _ _ rfl rfl) ?_
    refine AOps_q 5 _ rfl rfl rfl (QOp_assign _ _ rfl rfl) ?_
    refine AOps_nil ?_
    refine ACode_ret ?_
    cases h
    exact ⟨_, _, fun r a w h => ⟨r, h⟩, _, _, [], _, (.cons (ResV_tmp _ _ rfl) (.cons (ResV_tmp _ _ rfl) .nil)), rfl, rfl, rfl, rfl, rfl⟩

-- loop.example/g01362/impl.in
def impl_in (p0 : Int) (p1 : Int) (p2 : Int) : Bool :=
  letO (if decide (p1 ≤ p0) then decide (p0 ≤ p2) else false) fun (s2 : Bool) => s2
set_option maxRecDepth 100000 in
theorem impl_in_ac (p0 : Int) (p1 : Int) (p2 : Int) : AC Try.prog 103 [iV p0, iV p1, iV p2] [] (fun res H' => res = [bV (impl_in p0 p1 p2)] ∧ H' = []) := by
  refine AC_of_body true Try.func103 rfl Try.ntmps103 (rvs := [.tmp 6]) rfl rfl (fun G hG => ?_)
  have hm : G.H.length = 0 := by rw [hG]; rfl
  have hz : zeroG G.H = true := by rw [hG]; rfl
  obtain ⟨r, h⟩ : ∃ r, impl_in p0 p1 p2 = r := ⟨_, rfl⟩
  rw [h]
  unfold impl_in at h
  refine ACode_seq (ACode_region ?_)
  refine AOps_q 6 _ rfl rfl rfl (QOp_assign _ _ rfl rfl) ?_
  refine AOps_nil ?_
  obtain ⟨s2, hss2, hks2⟩ := letS h
  clear h
  refine ACode_seqJ (fun E' H' => Weak 15 G E' H' [(6, bV s2)] []) ?_ ?_
  · have h := hss2
    clear hss2
    refine (ACode_region ?_)
    refine AOps_q 7 _ rfl rfl rfl (QOp_move _ _ rfl rfl) ?_
    refine AOps_q 8 _ rfl rfl rfl (QOp_move _ _ rfl rfl) ?_
    refine AOps_q 9 _ rfl rfl rfl (QOp_geq _ _ _ _ _ _ _ rfl rfl rfl) ?_
    refine AOps_q 10 _ rfl rfl rfl (QOp_move _ _ rfl rfl) ?_
    refine AOps_case 10 _ rfl (fun hb1 => ?_) (fun hb1 => ?_)
    · have h := iteT hb1 h
      refine AOps_q 11 _ rfl rfl rfl (QOp_move _ _ rfl rfl) ?_
      refine AOps_q 12 _ rfl rfl rfl (QOp_move _ _ rfl rfl) ?_
      refine AOps_q 13 _ rfl rfl rfl (QOp_leq _ _ _ _ _ _ _ rfl rfl rfl) ?_
      refine AOps_q 14 _ rfl rfl rfl (QOp_pick_t _ _ _ _ rfl rfl rfl) ?_
      refine AOps_q 6 _ rfl rfl rfl (QOp_assign _ _ rfl rfl) ?_
      refine AOps_nil ?_
      cases h
      exact Weak_keep 0 hm [6] [] _ _ rfl rfl rfl
    · have h := iteF hb1 h
      refine AOps_skip 11 rfl rfl rfl ?_
      refine AOps_skip 12 rfl rfl rfl ?_
      refine AOps_skip 13 rfl rfl rfl ?_
      refine AOps_q 14 _ rfl rfl rfl (QOp_pick_f _ _ _ _ rfl rfl rfl) ?_
      refine AOps_q 6 _ rfl rfl rfl (QOp_assign _ _ rfl rfl) ?_
      refine AOps_nil ?_
      cases h
      exact Weak_keep 0 hm [6] [] _ _ rfl rfl rfl
  intro E' H' hw
  refine ACode_weak hw ?_
  have h := hks2
  refine ACode_ret ?_
  cases h
  exact ⟨_, _, fun r a w h => ⟨r, h⟩, _, _, [], _, (.cons (ResV_tmp _ _ rfl) .nil), rfl, rfl, rfl, rfl, rfl⟩

-- (*loop.example/g01362/impl.Colouring).edges
def impl_Colouring_edges (p0 : Col) : Int :=
  w64 ((w64 (p0.p * (w64 (p0.p - 1)))).tdiv 2)
set_option maxRecDepth 100000 in
theorem impl_Colouring_edges_ac (p0 : Col) : AC Try.prog 115 [.d (.pv (colD p0) 0)] [] (fun res H' => res = [iV (impl_Colouring_edges p0)] ∧ H' = []) := by
  refine AC_of_body true Try.func115 rfl Try.ntmps115 (rvs := [.tmp 2]) rfl rfl (fun G hG => ?_)
  have hm : G.H.length = 0 := by rw [hG]; rfl
  have hz : zeroG G.H = true := by rw [hG]; rfl
  obtain ⟨r, h⟩ : ∃ r, impl_Colouring_edges p0 = r := ⟨_, rfl⟩
  rw [h]
  unfold impl_Colouring_edges at h
  refine ACode_seq (ACode_region ?_)
  refine AOps_q 2 _ rfl rfl rfl (QOp_assign _ _ rfl rfl) ?_
  refine AOps_nil ?_
  refine ACode_seq (ACode_quiet mixed (by kernel_rfl) ?_)
  refine AQ_q 3 _ rfl rfl rfl (QOp_move _ _ rfl rfl) ?_
  refine AQ_q 4 _ rfl rfl rfl (QOp_nilCheck_pv _ _ _ rfl rfl) ?_
  refine AQ_q 5 _ rfl rfl rfl (QOp_fieldAddr_pv _ _ _ _ _ 0 _ _ rfl Try.underlying24 rfl _ Try.sizeOf2 rfl rfl) ?_
  refine AQ_q 6 _ rfl rfl rfl (QOp_load_pv _ _ _ _ _ rfl Try.isAgg2 rfl rfl) ?_
  refine AQ_q 7 _ rfl rfl rfl (QOp_move _ _ rfl rfl) ?_
  refine AQ_q 8 _ rfl rfl rfl (QOp_nilCheck_pv _ _ _ rfl rfl) ?_
  refine AQ_q 9 _ rfl rfl rfl (QOp_fieldAddr_pv _ _ _ _ _ 0 _ _ rfl Try.underlying24 rfl _ Try.sizeOf2 rfl rfl) ?_
  refine AQ_q 10 _ rfl rfl rfl (QOp_load_pv _ _ _ _ _ rfl Try.isAgg2 rfl rfl) ?_
  refine AQ_q 11 _ rfl rfl rfl (QOp_sub _ _ _ _ _ _ _ rfl rfl rfl) ?_
  refine AQ_q 12 _ rfl rfl rfl (QOp_mul _ _ _ _ _ _ _ rfl rfl rfl) ?_
  refine AQ_q 13 _ rfl rfl rfl (QOp_quo _ _ _ _ _ _ _ (by decide) rfl rfl rfl) ?_
  refine AQ_q 2 _ rfl rfl rfl (QOp_assign _ _ rfl rfl) ?_
  refine AQ_nil ?_
  refine ACode_ret ?_
  cases h
  exact ⟨_, _, fun r a w h => ⟨r, h⟩, _, _, [], _, (.cons (ResV_tmp _ _ rfl) .nil), rfl, rfl, rfl, rfl, rfl⟩

-- (*loop.example/g01362/impl.Colouring).isColouring
def impl_Colouring_isColouring_l0 (k : Nat) (p0 : Col) : Nat → Int → Option (Sum (Unit) (Bool))
  | 0, _ => none
  | k0 + 1, x7 => (if decide (x7 < 136) then ((if 0 ≤ x7 ∧ x7 < 136 then letO (if decide (p0.k ≤ ((p0.e.get x7.toNat).toNat : Int)) then true else (if decide ((impl_Colouring_edges p0) ≤ x7) then !decide (((p0.e.get x7.toNat).toNat : Int) = 0) else false)) fun (s13 : Bool) => (if s13 then (some (.inr false)).bind fun rr => some (.inr rr) else some (.inl ())) else none) : Option (Sum (Unit) (Sum (Unit) (Bool)))).bind fun os15 => (match os15 with | .inl s15 => impl_Colouring_isColouring_l0 k p0 k0 (w64 (x7 + 1)) | .inr rr => some rr) else some (.inl ()))
def impl_Colouring_isColouring (k : Nat) (p0 : Col) : Option (Bool) :=
  (letO (if !(impl_in p0.p 1 17) then true else !(impl_in p0.k 1 4)) fun (s4 : Bool) => (if s4 then some (.inr false) else some (.inl ())) : Option (Sum (Unit) (Bool))).bind fun os6 => (match os6 with | .inl s6 => (impl_Colouring_isColouring_l0 k p0 k 0 : Option (Sum (Unit) (Bool))).bind fun os16 => (match os16 with | .inl s16 => some true | .inr rr => some rr) | .inr rr => some rr)
set_option maxRecDepth 100000 in
theorem impl_Colouring_isColouring_ac (k : Nat) (p0 : Col) (r : Bool) (h : impl_Colouring_isColouring k p0 = some r) : AC Try.prog 83 [.d (.pv (colD p0) 0)] [] (fun res H' => res = [bV r] ∧ H' = []) := by
  refine AC_of_body true Try.func83 rfl Try.ntmps83 (rvs := [.tmp 2]) rfl rfl (fun G hG => ?_)
  have hm : G.H.length = 0 := by rw [hG]; rfl
  have hz : zeroG G.H = true := by rw [hG]; rfl
  unfold impl_Colouring_isColouring at h
  refine ACode_seq (ACode_region ?_)
  refine AOps_q 2 _ rfl rfl rfl (QOp_assign _ _ rfl rfl) ?_
  refine AOps_nil ?_
  obtain ⟨os6, hss6, hks6⟩ := bindO h
  clear h
  refine ACode_seqJ (fun E' H' => ∃ s6 : Unit, os6 = .inl s6 ∧ Weak 45 G E' H' [(0, .d (.pv (colD p0) 0))] []) ?_ ?_
  · have h := hss6
    clear hss6
    obtain ⟨s4, hss4, hks4⟩ := letS h
    clear h
    refine ACode_seqJ (fun E' H' => Weak 45 G E' H' [(0, .d (.pv (colD p0) 0)), (18, bV s4)] []) ?_ ?_
    · have h := hss4
      clear hss4
      refine (ACode_region ?_)
      refine AOps_q 5 _ rfl rfl rfl (QOp_move _ _ rfl rfl) ?_
      refine AOps_q 6 _ rfl rfl rfl (QOp_nilCheck_pv _ _ _ rfl rfl) ?_
      refine AOps_q 7 _ rfl rfl rfl (QOp_fieldAddr_pv _ _ _ _ _ 0 _ _ rfl Try.underlying24 rfl _ Try.sizeOf2 rfl rfl) ?_
      refine AOps_q 8 _ rfl rfl rfl (QOp_load_pv _ _ _ _ _ rfl Try.isAgg2 rfl rfl) ?_
      refine AOps_call [] 9 _ _ _ _ _ _ _ _ _ _ rfl rfl rfl rfl rfl rfl rfl Try.call103 rfl (nodupB_sound _ rfl) rfl rfl rfl (impl_in_ac p0.p 1 17) ?_
      rintro _ _ ⟨rfl, rfl⟩
      refine ⟨(fun _ h => nomatch h), (allc (trivial) (fun _ h => nomatch h)), AOps_as 9 (v' := bV (impl_in p0.p 1 17)) (H' := []) rfl rfl ?_⟩
      refine AOps_q 10 _ rfl rfl rfl (QOp_not _ _ _ rfl rfl) ?_
      refine AOps_q 11 _ rfl rfl rfl (QOp_move _ _ rfl rfl) ?_
      refine AOps_case 11 _ rfl (fun hb2 => ?_) (fun hb2 => ?_)
      · have h := iteT hb2 h
        refine AOps_skip 12 rfl rfl rfl ?_
        refine AOps_skip 13 rfl rfl rfl ?_
        refine AOps_skip 14 rfl rfl rfl ?_
        refine AOps_skip 15 rfl rfl rfl ?_
        refine AOps_skip 16 rfl rfl rfl ?_
        refine AOps_skip 17 rfl rfl rfl ?_
        refine AOps_q 18 _ rfl rfl rfl (QOp_pick_t _ _ _ _ rfl rfl rfl) ?_
        refine AOps_nil ?_
        cases h
        exact Weak_keep 0 hm [0, 18] [] _ _ rfl rfl rfl
      · have h := iteF hb2 h
        refine AOps_q 12 _ rfl rfl rfl (QOp_move _ _ rfl rfl) ?_
        refine AOps_q 13 _ rfl rfl rfl (QOp_nilCheck_pv _ _ _ rfl rfl) ?_
        refine AOps_q 14 _ rfl rfl rfl (QOp_fieldAddr_pv _ _ _ _ _ 1 _ _ rfl Try.underlying24 rfl _ Try.sizeOf2 rfl rfl) ?_
        refine AOps_q 15 _ rfl rfl rfl (QOp_load_pv _ _ _ _ _ rfl Try.isAgg2 rfl rfl) ?_
        refine AOps_call [] 16 _ _ _ _ _ _ _ _ _ _ rfl rfl rfl rfl rfl rfl rfl Try.call103 rfl (nodupB_sound _ rfl) rfl rfl rfl (impl_in_ac p0.k 1 4) ?_
        rintro _ _ ⟨rfl, rfl⟩
        refine ⟨(fun _ h => nomatch h), (allc (trivial) (fun _ h => nomatch h)), AOps_as 16 (v' := bV (impl_in p0.k 1 4)) (H' := []) rfl rfl ?_⟩
        refine AOps_q 17 _ rfl rfl rfl (QOp_not _ _ _ rfl rfl) ?_
        refine AOps_q 18 _ rfl rfl rfl (QOp_pick_f _ _ _ _ rfl rfl rfl) ?_
        refine AOps_nil ?_
        cases h
        exact Weak_keep 0 hm [0, 18] [] _ _ rfl rfl rfl
    intro E' H' hw
    refine ACode_weak hw ?_
    have h := hks4
    refine ACode_cond _ rfl (fun hb5 => ?_) (fun hb5 => ?_)
    · have h := iteT hb5 h
      refine ACode_seq (ACode_region ?_)
      refine AOps_q 2 _ rfl rfl rfl (QOp_assign _ _ rfl rfl) ?_
      refine AOps_nil ?_
      refine ACode_ret ?_
      cases h
      have h := hks6
      cases h
      exact ⟨_, _, fun r a w h => ⟨r, h⟩, _, _, [], _, (.cons (ResV_tmp _ _ rfl) .nil), rfl, rfl, rfl, rfl, rfl⟩
    · have h := iteF hb5 h
      refine ACode_skip ?_
      cases h
      exact ⟨_, rfl, Weak_keep 0 hm [0] [] _ _ rfl rfl rfl⟩
  rintro E' H' ⟨s6, rfl, hw⟩
  refine ACode_weak hw ?_
  have h := hks6
  obtain ⟨os16, hss16, hks16⟩ := bindO h
  clear h
  refine ACode_seqJ (fun E' H' => ∃ s16 : Unit, os16 = .inl s16 ∧ Weak 45 G E' H' [] []) ?_ ?_
  · have h := hss16
    clear hss16
    refine ACode_seq (ACode_region ?_)
    refine AOps_q 19 _ rfl rfl rfl (QOp_move _ _ rfl rfl) ?_
    refine AOps_q 20 _ rfl rfl rfl (QOp_nilCheck_pv _ _ _ rfl rfl) ?_
    refine AOps_q 21 _ rfl rfl rfl (QOp_fieldAddr_pv _ _ _ _ _ 2 _ _ rfl Try.underlying24 rfl _ Try.sizeOf22 rfl rfl) ?_
    refine AOps_q 22 _ rfl rfl rfl (QOp_loadN_pv _ _ _ _ _ _ rfl Try.isAgg22 Try.sizeOf22 rfl (colD_edges _) (byD_length _)) ?_
    refine AOps_q 23 _ rfl rfl rfl (QOp_move _ _ rfl rfl) ?_
    refine AOps_nil ?_
    refine ACode_block ?_
    refine ACode_loopW (fun k0 E H => ∃ (x7 : Int), E = [(0, .d (.pv (colD p0) 0)), (22, .d (.agg (byD p0.e))), (23, iV x7)] ∧ H = [] ∧ impl_Colouring_isColouring_l0 k p0 k0 x7 = some os16) k _ _ (Weak_keep 0 hm [0, 22, 23] [] _ _ rfl rfl rfl) ⟨_, rfl, rfl, h⟩ ?_
    clear h
    rintro k0 E H ⟨x7, rfl, rfl, h⟩
    cases k0 with
    | zero => cases (show (none : Option (Sum (Unit) (Bool))) = some _ from h)
    | succ k0 =>
      rw [impl_Colouring_isColouring_l0] at h
      refine ACode_seq (ACode_region ?_)
      refine AOps_q 24 _ rfl rfl rfl (QOp_lss _ _ _ _ _ _ _ rfl rfl rfl) ?_
      refine AOps_nil ?_
      refine ACode_seq ?_
      refine ACode_cond _ rfl (fun hb8 => ?_) (fun hb8 => ?_)
      · have h := iteT hb8 h
        refine ACode_skip ?_
        obtain ⟨os15, hss15, hks15⟩ := bindO h
        clear h
        refine ACode_seqJ (fun E' H' => ∃ s15 : Unit, os15 = .inl s15 ∧ Weak 45 G E' H' [(0, .d (.pv (colD p0) 0)), (22, .d (.agg (byD p0.e))), (23, iV x7)] []) ?_ ?_
        · have h := hss15
          clear hss15
          refine ACode_block ?_
          refine ACode_seq (ACode_region ?_)
          refine AOps_q 25 _ rfl rfl rfl (QOp_move _ _ rfl rfl) ?_
          obtain ⟨hc9, h⟩ := guardO h
          refine AOps_q 26 _ rfl rfl rfl (QOp_index_agg _ _ _ _ _ _ _ _ _ rfl Try.underlying22 Try.sizeOf5 Try.isAgg5 hc9.1 hc9.2 rfl rfl (byD_get _ _ (by omega))) ?_
          refine AOps_q 3 _ rfl rfl rfl (QOp_assign _ _ rfl rfl) ?_
          refine AOps_q 4 _ rfl rfl rfl (QOp_assign _ _ rfl rfl) ?_
          refine AOps_nil ?_
          obtain ⟨s13, hss13, hks13⟩ := letS h
          clear h
          refine ACode_seqJ (fun E' H' => Weak 45 G E' H' [(0, .d (.pv (colD p0) 0)), (22, .d (.agg (byD p0.e))), (23, iV x7), (43, bV s13)] []) ?_ ?_
          · have h := hss13
            clear hss13
            refine (ACode_region ?_)
            refine AOps_q 27 _ rfl rfl rfl (QOp_move _ _ rfl rfl) ?_
            refine AOps_q 28 _ rfl rfl rfl (QOp_fromByte _ _ _ _ _ rfl rfl Try.underlying2 wrap_i64_byte rfl) ?_
            refine AOps_q 29 _ rfl rfl rfl (QOp_move _ _ rfl rfl) ?_
            refine AOps_q 30 _ rfl rfl rfl (QOp_nilCheck_pv _ _ _ rfl rfl) ?_
            refine AOps_q 31 _ rfl rfl rfl (QOp_fieldAddr_pv _ _ _ _ _ 1 _ _ rfl Try.underlying24 rfl _ Try.sizeOf2 rfl rfl) ?_
            refine AOps_q 32 _ rfl rfl rfl (QOp_load_pv _ _ _ _ _ rfl Try.isAgg2 rfl rfl) ?_
            refine AOps_q 33 _ rfl rfl rfl (QOp_geq _ _ _ _ _ _ _ rfl rfl rfl) ?_
            refine AOps_q 34 _ rfl rfl rfl (QOp_move _ _ rfl rfl) ?_
            refine AOps_case 34 _ rfl (fun hb10 => ?_) (fun hb10 => ?_)
            · have h := iteT hb10 h
              refine AOps_skip 35 rfl rfl rfl ?_
              refine AOps_skip 36 rfl rfl rfl ?_
              refine AOps_skip 37 rfl rfl rfl ?_
              refine AOps_skip 38 rfl rfl rfl ?_
              refine AOps_skip 39 rfl rfl rfl ?_
              refine AOps_skip 40 rfl rfl rfl ?_
              refine AOps_skip 41 rfl rfl rfl ?_
              refine AOps_skip 42 rfl rfl rfl ?_
              refine AOps_q 43 _ rfl rfl rfl (QOp_pick_t _ _ _ _ rfl rfl rfl) ?_
              refine AOps_nil ?_
              cases h
              exact Weak_keep 0 hm [0, 22, 23, 43] [] _ _ rfl rfl rfl
            · have h := iteF hb10 h
              refine AOps_q 35 _ rfl rfl rfl (QOp_move _ _ rfl rfl) ?_
              refine AOps_q 36 _ rfl rfl rfl (QOp_move _ _ rfl rfl) ?_
              refine AOps_call [] 37 _ _ _ _ _ _ _ _ _ _ rfl rfl rfl rfl rfl rfl rfl Try.call115 rfl (nodupB_sound _ rfl) rfl rfl rfl (impl_Colouring_edges_ac p0) ?_
              rintro _ _ ⟨rfl, rfl⟩
              refine ⟨(fun _ h => nomatch h), (allc (trivial) (fun _ h => nomatch h)), AOps_as 37 (v' := iV (impl_Colouring_edges p0)) (H' := []) rfl rfl ?_⟩
              refine AOps_q 38 _ rfl rfl rfl (QOp_geq _ _ _ _ _ _ _ rfl rfl rfl) ?_
              refine AOps_q 39 _ rfl rfl rfl (QOp_move _ _ rfl rfl) ?_
              refine AOps_case 39 _ rfl (fun hb12 => ?_) (fun hb12 => ?_)
              · have h := iteT hb12 h
                refine AOps_q 40 _ rfl rfl rfl (QOp_move _ _ rfl rfl) ?_
                refine AOps_q 41 _ rfl rfl rfl (QOp_neq _ _ _ _ _ _ _ rfl rfl rfl) ?_
                refine AOps_q 42 _ rfl rfl rfl (QOp_pick_t _ _ _ _ rfl rfl rfl) ?_
                refine AOps_q 43 _ rfl rfl rfl (QOp_pick_f _ _ _ _ rfl rfl rfl) ?_
                refine AOps_nil ?_
                cases h
                exact Weak_keep 0 hm [0, 22, 23, 43] [] _ _ rfl rfl rfl
              · have h := iteF hb12 h
                refine AOps_skip 40 rfl rfl rfl ?_
                refine AOps_skip 41 rfl rfl rfl ?_
                refine AOps_q 42 _ rfl rfl rfl (QOp_pick_f _ _ _ _ rfl rfl rfl) ?_
                refine AOps_q 43 _ rfl rfl rfl (QOp_pick_f _ _ _ _ rfl rfl rfl) ?_
                refine AOps_nil ?_
                cases h
                exact Weak_keep 0 hm [0, 22, 23, 43] [] _ _ rfl rfl rfl
          intro E' H' hw
          refine ACode_weak hw ?_
          have h := hks13
          refine ACode_cond _ rfl (fun hb14 => ?_) (fun hb14 => ?_)
          · have h := iteT hb14 h
            refine ACode_seq (ACode_region ?_)
            refine AOps_q 2 _ rfl rfl rfl (QOp_assign _ _ rfl rfl) ?_
            refine AOps_nil ?_
            refine ACode_ret ?_
            obtain ⟨rr, hz17, h2⟩ := bindO h
            obtain rfl := Option.some.inj h2
            obtain rfl := Option.some.inj (show some rr = some _ from hks15)
            have h := hz17
            cases h
            have h := hks16
            cases h
            exact ⟨_, _, fun r a w h => ⟨r, h⟩, _, _, [], _, (.cons (ResV_tmp _ _ rfl) .nil), rfl, rfl, rfl, rfl, rfl⟩
          · have h := iteF hb14 h
            refine ACode_skip ?_
            cases h
            exact ⟨_, rfl, Weak_keep 0 hm [0, 22, 23] [] _ _ rfl rfl rfl⟩
        rintro E' H' ⟨s15, rfl, hw⟩
        refine ACode_weak hw ?_
        have h := hks15
        refine (ACode_region ?_)
        refine AOps_q 44 _ rfl rfl rfl (QOp_add _ _ _ _ _ _ _ rfl rfl rfl) ?_
        refine AOps_q 23 _ rfl rfl rfl (QOp_move _ _ rfl rfl) ?_
        refine AOps_nil ?_
        exact ⟨k0, _, _, Nat.lt_succ_self _, Weak_keep 0 hm [0, 22, 23] [] _ _ rfl rfl rfl, _, rfl, rfl, h⟩
      · have h := iteF hb8 h
        refine ACode_exit ?_
        cases h
        exact ⟨_, rfl, Weak_keep 0 hm [] [] _ _ rfl rfl rfl⟩
  rintro E' H' ⟨s16, rfl, hw⟩
  refine ACode_weak hw ?_
  have h := hks16
  refine ACode_seq (ACode_region ?_)
  refine AOps_q 2 _ rfl rfl rfl (QOp_assign _ _ rfl rfl) ?_
  refine AOps_nil ?_
  refine ACode_ret ?_
  cases h
  exact ⟨_, _, fun r a w h => ⟨r, h⟩, _, _, [], _, (.cons (ResV_tmp _ _ rfl) .nil), rfl, rfl, rfl, rfl, rfl⟩

-- (*loop.example/g01362/impl.Colouring).code
def impl_Colouring_code (k : Nat) (p0 : Col) (p1 : Option (Bool)) : Option (Int) :=
  (impl_Colouring_isColouring k p0).bind fun r1 => (if !r1 then some 1 else (p1).bind fun r3 => (if !r3 then some 2 else some 0))
set_option maxRecDepth 100000 in
theorem impl_Colouring_code_ac (k : Nat) (p0 : Col) (p1 : Option (Bool)) (g_p1 : FuncId) (c_p1 : List D) (hg_p1 : ∀ args w, (callFunc g_p1 args).run Try.prog w = .ok (.enter g_p1 args) w) (hf_p1 : ∀ (r : Bool), p1 = some r → AC Try.prog g_p1 ([] ++ c_p1.map AV.d) [] (fun res H' => res = [bV r] ∧ H' = [])) (r : Int) (h : impl_Colouring_code k p0 p1 = some r) : AC Try.prog 59 [.d (.pv (colD p0) 0), .d (.clo g_p1 c_p1)] [] (fun res H' => res = [iV r] ∧ H' = []) := by
  refine AC_of_body true Try.func59 rfl Try.ntmps59 (rvs := [.tmp 4]) rfl rfl (fun G hG => ?_)
  have hm : G.H.length = 0 := by rw [hG]; rfl
  have hz : zeroG G.H = true := by rw [hG]; rfl
  unfold impl_Colouring_code at h
  refine ACode_seq (ACode_region ?_)
  refine AOps_q 4 _ rfl rfl rfl (QOp_assign _ _ rfl rfl) ?_
  refine AOps_nil ?_
  refine ACode_seq ?_
  refine ACode_block ?_
  refine ACode_seq (ACode_region ?_)
  refine AOps_q 6 _ rfl rfl rfl (QOp_move _ _ rfl rfl) ?_
  obtain ⟨r1, hr1, h⟩ := bindO h
  refine AOps_call [] 7 _ _ _ _ _ _ _ _ _ _ rfl rfl rfl rfl rfl rfl rfl Try.call83 rfl (nodupB_sound _ rfl) rfl rfl rfl (impl_Colouring_isColouring_ac k p0 _ hr1) ?_
  rintro _ _ ⟨rfl, rfl⟩
  refine ⟨(fun _ h => nomatch h), (allc (trivial) (fun _ h => nomatch h)), AOps_as 7 (v' := bV r1) (H' := []) rfl rfl ?_⟩
  refine AOps_q 8 _ rfl rfl rfl (QOp_not _ _ _ rfl rfl) ?_
  refine AOps_q 5 _ rfl rfl rfl (QOp_assign _ _ rfl rfl) ?_
  refine AOps_nil ?_
  refine ACode_cond _ rfl (fun hb2 => ?_) (fun hb2 => ?_)
  · have h := iteT hb2 h
    refine ACode_seq (ACode_region ?_)
    refine AOps_q 4 _ rfl rfl rfl (QOp_assign _ _ rfl rfl) ?_
    refine AOps_nil ?_
    refine ACode_ret ?_
    cases h
    exact ⟨_, _, fun r a w h => ⟨r, h⟩, _, _, [], _, (.cons (ResV_tmp _ _ rfl) .nil), rfl, rfl, rfl, rfl, rfl⟩
  · have h := iteF hb2 h
    refine ACode_seq (ACode_region ?_)
    refine AOps_q 10 _ rfl rfl rfl (QOp_move _ _ rfl rfl) ?_
    obtain ⟨r3, hr3, h⟩ := bindO h
    refine AOps_call [] 11 _ _ _ _ _ _ _ _ _ _ rfl rfl rfl rfl rfl rfl rfl hg_p1 rfl (nodupB_sound _ rfl) rfl rfl (viewA_mapD _) (hf_p1 _ hr3) ?_
    rintro _ _ ⟨rfl, rfl⟩
    refine ⟨(fun _ h => nomatch h), (allc (trivial) (fun _ h => nomatch h)), AOps_as 11 (v' := bV r3) (H' := []) rfl rfl ?_⟩
    refine AOps_q 12 _ rfl rfl rfl (QOp_not _ _ _ rfl rfl) ?_
    refine AOps_q 9 _ rfl rfl rfl (QOp_assign _ _ rfl rfl) ?_
    refine AOps_nil ?_
    refine ACode_cond _ rfl (fun hb4 => ?_) (fun hb4 => ?_)
    · have h := iteT hb4 h
      refine ACode_seq (ACode_region ?_)
      refine AOps_q 4 _ rfl rfl rfl (QOp_assign _ _ rfl rfl) ?_
      refine AOps_nil ?_
      refine ACode_ret ?_
      cases h
      exact ⟨_, _, fun r a w h => ⟨r, h⟩, _, _, [], _, (.cons (ResV_tmp _ _ rfl) .nil), rfl, rfl, rfl, rfl, rfl⟩
    · have h := iteF hb4 h
      refine ACode_skip ?_
      refine ACode_seq (ACode_region ?_)
      refine AOps_q 4 _ rfl rfl rfl (QOp_assign _ _ rfl rfl) ?_
      refine AOps_nil ?_
      refine ACode_ret ?_
      cases h
      exact ⟨_, _, fun r a w h => ⟨r, h⟩, _, _, [], _, (.cons (ResV_tmp _ _ rfl) .nil), rfl, rfl, rfl, rfl, rfl⟩

-- (*loop.example/g01362/impl.Colouring).has
def impl_Colouring_has (p0 : Col) (p1 : Int) : Bool :=
  (impl_in p1 0 (w64 (p0.p - 1)))
set_option maxRecDepth 100000 in
theorem impl_Colouring_has_ac (p0 : Col) (p1 : Int) : AC Try.prog 106 [.d (.pv (colD p0) 0), iV p1] [] (fun res H' => res = [bV (impl_Colouring_has p0 p1)] ∧ H' = []) := by
  refine AC_of_body true Try.func106 rfl Try.ntmps106 (rvs := [.tmp 4]) rfl rfl (fun G hG => ?_)
  have hm : G.H.length = 0 := by rw [hG]; rfl
  have hz : zeroG G.H = true := by rw [hG]; rfl
  obtain ⟨r, h⟩ : ∃ r, impl_Colouring_has p0 p1 = r := ⟨_, rfl⟩
  rw [h]
  unfold impl_Colouring_has at h
  refine ACode_seq (ACode_region ?_)
  refine AOps_q 4 _ rfl rfl rfl (QOp_assign _ _ rfl rfl) ?_
  refine AOps_nil ?_
  refine ACode_seq (ACode_region ?_)
  refine AOps_q 5 _ rfl rfl rfl (QOp_move _ _ rfl rfl) ?_
  refine AOps_q 6 _ rfl rfl rfl (QOp_move _ _ rfl rfl) ?_
  refine AOps_q 7 _ rfl rfl rfl (QOp_nilCheck_pv _ _ _ rfl rfl) ?_
  refine AOps_q 8 _ rfl rfl rfl (QOp_fieldAddr_pv _ _ _ _ _ 0 _ _ rfl Try.underlying24 rfl _ Try.sizeOf2 rfl rfl) ?_
  refine AOps_q 9 _ rfl rfl rfl (QOp_load_pv _ _ _ _ _ rfl Try.isAgg2 rfl rfl) ?_
  refine AOps_q 10 _ rfl rfl rfl (QOp_sub _ _ _ _ _ _ _ rfl rfl rfl) ?_
  refine AOps_call [] 11 _ _ _ _ _ _ _ _ _ _ rfl rfl rfl rfl rfl rfl rfl Try.call103 rfl (nodupB_sound _ rfl) rfl rfl rfl (impl_in_ac p1 0 (w64 (p0.p - 1))) ?_
  rintro _ _ ⟨rfl, rfl⟩
  refine ⟨(fun _ h => nomatch h), (allc (trivial) (fun _ h => nomatch h)), AOps_as 11 (v' := bV (impl_in p1 0 (w64 (p0.p - 1)))) (H' := []) rfl rfl ?_⟩
  refine AOps_q 4 _ rfl rfl rfl (QOp_assign _ _ rfl rfl) ?_
  refine AOps_nil ?_
  refine ACode_ret ?_
  cases h
  exact ⟨_, _, fun r a w h => ⟨r, h⟩, _, _, [], _, (.cons (ResV_tmp _ _ rfl) .nil), rfl, rfl, rfl, rfl, rfl⟩

-- (*loop.example/g01362/impl.Colouring).isSet
def impl_Colouring_isSet_l0 (p0 : Col) (p1 : List Int) : Nat → Int → Option (Sum (Unit) (Bool))
  | 0, _ => none
  | k0 + 1, x1 => (if decide (x1 < (p1.length : Int)) then ((if 0 ≤ x1 ∧ x1 < (p1.length : Int) then ((if !(impl_Colouring_has p0 (p1.getD x1.toNat 0)) then some true else (if decide (0 < x1) then (if 0 ≤ w64 (x1 - 1) ∧ w64 (x1 - 1) < (p1.length : Int) then some (decide ((p1.getD x1.toNat 0) ≤ (p1.getD (w64 (x1 - 1)).toNat 0))) else none) else some false)) : Option (Bool)).bind fun s8 => (if s8 then (some (.inr false)).bind fun rr => some (.inr rr) else some (.inl ())) else none) : Option (Sum (Unit) (Sum (Unit) (Bool)))).bind fun os10 => (match os10 with | .inl s10 => impl_Colouring_isSet_l0 p0 p1 k0 (w64 (x1 + 1)) | .inr rr => some rr) else some (.inl ()))
def impl_Colouring_isSet (k : Nat) (p0 : Col) (p1 : List Int) : Option (Bool) :=
  (impl_Colouring_isSet_l0 p0 p1 k 0 : Option (Sum (Unit) (Bool))).bind fun os11 => (match os11 with | .inl s11 => some true | .inr rr => some rr)
set_option maxRecDepth 100000 in
theorem impl_Colouring_isSet_ac (k : Nat) (p0 : Col) (p1 : List Int) (r : Bool) (h : impl_Colouring_isSet k p0 p1 = some r) : AC Try.prog 61 [.d (.pv (colD p0) 0), .d (.sl none (intsD p1))] [] (fun res H' => res = [bV r] ∧ H' = []) := by
  refine AC_of_body true Try.func61 rfl Try.ntmps61 (rvs := [.tmp 4]) rfl rfl (fun G hG => ?_)
  have hm : G.H.length = 0 := by rw [hG]; rfl
  have hz : zeroG G.H = true := by rw [hG]; rfl
  unfold impl_Colouring_isSet at h
  refine ACode_seq (ACode_region ?_)
  refine AOps_q 4 _ rfl rfl rfl (QOp_assign _ _ rfl rfl) ?_
  refine AOps_nil ?_
  obtain ⟨os11, hss11, hks11⟩ := bindO h
  clear h
  refine ACode_seqJ (fun E' H' => ∃ s11 : Unit, os11 = .inl s11 ∧ Weak 32 G E' H' [] []) ?_ ?_
  · have h := hss11
    clear hss11
    refine ACode_seq (ACode_region ?_)
    refine AOps_q 7 _ rfl rfl rfl (QOp_move _ _ rfl rfl) ?_
    refine AOps_q 8 _ rfl rfl rfl (QOp_len_sl _ _ _ _ _ _ _ (intsD_length _) rfl rfl rfl rfl Try.underlying38 rfl) ?_
    refine AOps_q 9 _ rfl rfl rfl (QOp_move _ _ rfl rfl) ?_
    refine AOps_nil ?_
    refine ACode_block ?_
    refine ACode_loopW (fun k0 E H => ∃ (x1 : Int), E = [(0, .d (.pv (colD p0) 0)), (1, .d (.sl none (intsD p1))), (7, .d (.sl none (intsD p1))), (8, iV (p1.length : Int)), (9, iV x1)] ∧ H = [] ∧ impl_Colouring_isSet_l0 p0 p1 k0 x1 = some os11) k _ _ (Weak_keep 0 hm [0, 1, 7, 8, 9] [] _ _ rfl rfl rfl) ⟨_, rfl, rfl, h⟩ ?_
    clear h
    rintro k0 E H ⟨x1, rfl, rfl, h⟩
    cases k0 with
    | zero => cases (show (none : Option (Sum (Unit) (Bool))) = some _ from h)
    | succ k0 =>
      rw [impl_Colouring_isSet_l0] at h
      refine ACode_seq (ACode_region ?_)
      refine AOps_q 10 _ rfl rfl rfl (QOp_lss _ _ _ _ _ _ _ rfl rfl rfl) ?_
      refine AOps_nil ?_
      refine ACode_seq ?_
      refine ACode_cond _ rfl (fun hb2 => ?_) (fun hb2 => ?_)
      · have h := iteT hb2 h
        refine ACode_skip ?_
        obtain ⟨os10, hss10, hks10⟩ := bindO h
        clear h
        refine ACode_seqJ (fun E' H' => ∃ s10 : Unit, os10 = .inl s10 ∧ Weak 32 G E' H' [(0, .d (.pv (colD p0) 0)), (1, .d (.sl none (intsD p1))), (7, .d (.sl none (intsD p1))), (8, iV (p1.length : Int)), (9, iV x1)] []) ?_ ?_
        · have h := hss10
          clear hss10
          refine ACode_block ?_
          refine ACode_seq (ACode_region ?_)
          refine AOps_q 11 _ rfl rfl rfl (QOp_move _ _ rfl rfl) ?_
          obtain ⟨hc3, h⟩ := guardO h
          refine AOps_q 12 _ rfl rfl rfl (QOp_indexAddr_sl _ _ _ _ _ _ _ _ rfl Try.underlying38 Try.sizeOf2 hc3.1 (by rw [intsD_length]; exact hc3.2) rfl rfl) ?_
          refine AOps_q 13 _ rfl rfl rfl (QOp_load_pv _ _ _ _ _ rfl Try.isAgg2 rfl (intsD_get _ _ 0 (by omega))) ?_
          refine AOps_q 5 _ rfl rfl rfl (QOp_assign _ _ rfl rfl) ?_
          refine AOps_q 6 _ rfl rfl rfl (QOp_assign _ _ rfl rfl) ?_
          refine AOps_nil ?_
          obtain ⟨s8, hss8, hks8⟩ := bindO h
          clear h
          refine ACode_seqJ (fun E' H' => Weak 32 G E' H' [(0, .d (.pv (colD p0) 0)), (1, .d (.sl none (intsD p1))), (7, .d (.sl none (intsD p1))), (8, iV (p1.length : Int)), (9, iV x1), (30, bV s8)] []) ?_ ?_
          · have h := hss8
            clear hss8
            refine (ACode_region ?_)
            refine AOps_q 14 _ rfl rfl rfl (QOp_move _ _ rfl rfl) ?_
            refine AOps_q 15 _ rfl rfl rfl (QOp_move _ _ rfl rfl) ?_
            refine AOps_call [] 16 _ _ _ _ _ _ _ _ _ _ rfl rfl rfl rfl rfl rfl rfl Try.call106 rfl (nodupB_sound _ rfl) rfl rfl rfl (impl_Colouring_has_ac p0 (p1.getD x1.toNat 0)) ?_
            rintro _ _ ⟨rfl, rfl⟩
            refine ⟨(fun _ h => nomatch h), (allc (trivial) (fun _ h => nomatch h)), AOps_as 16 (v' := bV (impl_Colouring_has p0 (p1.getD x1.toNat 0))) (H' := []) rfl rfl ?_⟩
            refine AOps_q 17 _ rfl rfl rfl (QOp_not _ _ _ rfl rfl) ?_
            refine AOps_q 18 _ rfl rfl rfl (QOp_move _ _ rfl rfl) ?_
            refine AOps_case 18 _ rfl (fun hb5 => ?_) (fun hb5 => ?_)
            · have h := iteT hb5 h
              refine AOps_skip 19 rfl rfl rfl ?_
              refine AOps_skip 20 rfl rfl rfl ?_
              refine AOps_skip 21 rfl rfl rfl ?_
              refine AOps_skip 22 rfl rfl rfl ?_
              refine AOps_skip 23 rfl rfl rfl ?_
              refine AOps_skip 24 rfl rfl rfl ?_
              refine AOps_skip 25 rfl rfl rfl ?_
              refine AOps_skip 26 rfl rfl rfl ?_
              refine AOps_skip 27 rfl rfl rfl ?_
              refine AOps_skip 28 rfl rfl rfl ?_
              refine AOps_skip 29 rfl rfl rfl ?_
              refine AOps_q 30 _ rfl rfl rfl (QOp_pick_t _ _ _ _ rfl rfl rfl) ?_
              refine AOps_nil ?_
              cases h
              exact Weak_keep 0 hm [0, 1, 7, 8, 9, 30] [] _ _ rfl rfl rfl
            · have h := iteF hb5 h
              refine AOps_q 19 _ rfl rfl rfl (QOp_move _ _ rfl rfl) ?_
              refine AOps_q 20 _ rfl rfl rfl (QOp_gtr _ _ _ _ _ _ _ rfl rfl rfl) ?_
              refine AOps_q 21 _ rfl rfl rfl (QOp_move _ _ rfl rfl) ?_
              refine AOps_case 21 _ rfl (fun hb6 => ?_) (fun hb6 => ?_)
              · have h := iteT hb6 h
                refine AOps_q 22 _ rfl rfl rfl (QOp_move _ _ rfl rfl) ?_
                refine AOps_q 23 _ rfl rfl rfl (QOp_move _ _ rfl rfl) ?_
                refine AOps_q 24 _ rfl rfl rfl (QOp_sub _ _ _ _ _ _ _ rfl rfl rfl) ?_
                obtain ⟨hc7, h⟩ := guardO h
                refine AOps_q 25 _ rfl rfl rfl (QOp_indexAddr_sl _ _ _ _ _ _ _ _ rfl Try.underlying38 Try.sizeOf2 hc7.1 (by rw [intsD_length]; exact hc7.2) rfl rfl) ?_
                refine AOps_q 26 _ rfl rfl rfl (QOp_load_pv _ _ _ _ _ rfl Try.isAgg2 rfl (intsD_get _ _ 0 (by omega))) ?_
                refine AOps_q 27 _ rfl rfl rfl (QOp_move _ _ rfl rfl) ?_
                refine AOps_q 28 _ rfl rfl rfl (QOp_geq _ _ _ _ _ _ _ rfl rfl rfl) ?_
                refine AOps_q 29 _ rfl rfl rfl (QOp_pick_t _ _ _ _ rfl rfl rfl) ?_
                refine AOps_q 30 _ rfl rfl rfl (QOp_pick_f _ _ _ _ rfl rfl rfl) ?_
                refine AOps_nil ?_
                cases h
                exact Weak_keep 0 hm [0, 1, 7, 8, 9, 30] [] _ _ rfl rfl rfl
              · have h := iteF hb6 h
                refine AOps_skip 22 rfl rfl rfl ?_
                refine AOps_skip 23 rfl rfl rfl ?_
                refine AOps_skip 24 rfl rfl rfl ?_
                refine AOps_skip 25 rfl rfl rfl ?_
                refine AOps_skip 26 rfl rfl rfl ?_
                refine AOps_skip 27 rfl rfl rfl ?_
                refine AOps_skip 28 rfl rfl rfl ?_
                refine AOps_q 29 _ rfl rfl rfl (QOp_pick_f _ _ _ _ rfl rfl rfl) ?_
                refine AOps_q 30 _ rfl rfl rfl (QOp_pick_f _ _ _ _ rfl rfl rfl) ?_
                refine AOps_nil ?_
                cases h
                exact Weak_keep 0 hm [0, 1, 7, 8, 9, 30] [] _ _ rfl rfl rfl
          intro E' H' hw
          refine ACode_weak hw ?_
          have h := hks8
          refine ACode_cond _ rfl (fun hb9 => ?_) (fun hb9 => ?_)
          · have h := iteT hb9 h
            refine ACode_seq (ACode_region ?_)
            refine AOps_q 4 _ rfl rfl rfl (QOp_assign _ _ rfl rfl) ?_
            refine AOps_nil ?_
            refine ACode_ret ?_
            obtain ⟨rr, hz12, h2⟩ := bindO h
            obtain rfl := Option.some.inj h2
            obtain rfl := Option.some.inj (show some rr = some _ from hks10)
            have h := hz12
            cases h
            have h := hks11
            cases h
            exact ⟨_, _, fun r a w h => ⟨r, h⟩, _, _, [], _, (.cons (ResV_tmp _ _ rfl) .nil), rfl, rfl, rfl, rfl, rfl⟩
          · have h := iteF hb9 h
            refine ACode_skip ?_
            cases h
            exact ⟨_, rfl, Weak_keep 0 hm [0, 1, 7, 8, 9] [] _ _ rfl rfl rfl⟩
        rintro E' H' ⟨s10, rfl, hw⟩
        refine ACode_weak hw ?_
        have h := hks10
        refine (ACode_region ?_)
        refine AOps_q 31 _ rfl rfl rfl (QOp_add _ _ _ _ _ _ _ rfl rfl rfl) ?_
        refine AOps_q 9 _ rfl rfl rfl (QOp_move _ _ rfl rfl) ?_
        refine AOps_nil ?_
        exact ⟨k0, _, _, Nat.lt_succ_self _, Weak_keep 0 hm [0, 1, 7, 8, 9] [] _ _ rfl rfl rfl, _, rfl, rfl, h⟩
      · have h := iteF hb2 h
        refine ACode_exit ?_
        cases h
        exact ⟨_, rfl, Weak_keep 0 hm [] [] _ _ rfl rfl rfl⟩
  rintro E' H' ⟨s11, rfl, hw⟩
  refine ACode_weak hw ?_
  have h := hks11
  refine ACode_seq (ACode_region ?_)
  refine AOps_q 4 _ rfl rfl rfl (QOp_assign _ _ rfl rfl) ?_
  refine AOps_nil ?_
  refine ACode_ret ?_
  cases h
  exact ⟨_, _, fun r a w h => ⟨r, h⟩, _, _, [], _, (.cons (ResV_tmp _ _ rfl) .nil), rfl, rfl, rfl, rfl, rfl⟩

-- loop.example/g01362/impl.IsLesserColoured$1
def impl_IsLesserColoured_c1 (k : Nat) (p0 : Col) (p1 : List Int) : Option (Bool) :=
  (impl_Colouring_isSet k p0 p1).bind fun r1 => some r1
set_option maxRecDepth 100000 in
theorem impl_IsLesserColoured_c1_ac (k : Nat) (p0 : Col) (p1 : List Int) (r : Bool) (h : impl_IsLesserColoured_c1 k p0 p1 = some r) : AC Try.prog 60 [.d (.pv (colD p0) 0), .d (.pv ([.sl none (intsD p1)]) 0)] [] (fun res H' => res = [bV r] ∧ H' = []) := by
  refine AC_of_body true Try.func60 rfl Try.ntmps60 (rvs := [.tmp 2]) rfl rfl (fun G hG => ?_)
  have hm : G.H.length = 0 := by rw [hG]; rfl
  have hz : zeroG G.H = true := by rw [hG]; rfl
  unfold impl_IsLesserColoured_c1 at h
  refine ACode_seq (ACode_region ?_)
  refine AOps_q 2 _ rfl rfl rfl (QOp_assign _ _ rfl rfl) ?_
  refine AOps_nil ?_
  refine ACode_seq (ACode_region ?_)
  refine AOps_q 3 _ rfl rfl rfl (QOp_load_pv _ _ _ _ _ rfl Try.isAgg38 rfl rfl) ?_
  obtain ⟨r1, hr1, h⟩ := bindO h
  refine AOps_call [] 4 _ _ _ _ _ _ _ _ _ _ rfl rfl rfl rfl rfl rfl rfl Try.call61 rfl (nodupB_sound _ rfl) rfl rfl rfl (impl_Colouring_isSet_ac k p0 p1 _ hr1) ?_
  rintro _ _ ⟨rfl, rfl⟩
  refine ⟨(fun _ h => nomatch h), (allc (trivial) (fun _ h => nomatch h)), AOps_as 4 (v' := bV r1) (H' := []) rfl rfl ?_⟩
  refine AOps_q 2 _ rfl rfl rfl (QOp_assign _ _ rfl rfl) ?_
  refine AOps_nil ?_
  refine ACode_ret ?_
  cases h
  exact ⟨_, _, fun r a w h => ⟨r, h⟩, _, _, [], _, (.cons (ResV_tmp _ _ rfl) .nil), rfl, rfl, rfl, rfl, rfl⟩

-- loop.example/g01362/impl.number
def impl_number (p0 : Int) (p1 : Int) : Int :=
  w64 ((w64 ((w64 ((if p0 < p1 then p1 else p0) * (w64 ((if p0 < p1 then p1 else p0) - 1)))).tdiv 2)) + (if p1 < p0 then p1 else p0))
set_option maxRecDepth 100000 in
theorem impl_number_ac (p0 : Int) (p1 : Int) : AC Try.prog 107 [iV p0, iV p1] [] (fun res H' => res = [iV (impl_number p0 p1)] ∧ H' = []) := by
  refine AC_of_body true Try.func107 rfl Try.ntmps107 (rvs := [.tmp 4]) rfl rfl (fun G hG => ?_)
  have hm : G.H.length = 0 := by rw [hG]; rfl
  have hz : zeroG G.H = true := by rw [hG]; rfl
  obtain ⟨r, h⟩ : ∃ r, impl_number p0 p1 = r := ⟨_, rfl⟩
  rw [h]
  unfold impl_number at h
  refine ACode_seq (ACode_region ?_)
  refine AOps_q 4 _ rfl rfl rfl (QOp_assign _ _ rfl rfl) ?_
  refine AOps_nil ?_
  refine ACode_seq (ACode_region ?_)
  refine AOps_q 5 _ rfl rfl rfl (QOp_move _ _ rfl rfl) ?_
  refine AOps_q 6 _ rfl rfl rfl (QOp_move _ _ rfl rfl) ?_
  refine AOps_q 7 _ rfl rfl rfl (QOp_min _ _ _ _ _ _ rfl rfl rfl rfl rfl) ?_
  refine AOps_q 8 _ rfl rfl rfl (QOp_move _ _ rfl rfl) ?_
  refine AOps_q 9 _ rfl rfl rfl (QOp_move _ _ rfl rfl) ?_
  refine AOps_q 10 _ rfl rfl rfl (QOp_max _ _ _ _ _ _ rfl rfl rfl rfl rfl) ?_
  refine AOps_q 0 _ rfl rfl rfl (QOp_assign _ _ rfl rfl) ?_
  refine AOps_q 1 _ rfl rfl rfl (QOp_assign _ _ rfl rfl) ?_
  refine AOps_nil ?_
  refine ACode_seq (ACode_region ?_)
  refine AOps_q 11 _ rfl rfl rfl (QOp_move _ _ rfl rfl) ?_
  refine AOps_q 12 _ rfl rfl rfl (QOp_move _ _ rfl rfl) ?_
  refine AOps_q 13 _ rfl rfl rfl (QOp_sub _ _ _ _ _ _ _ rfl rfl rfl) ?_
  refine AOps_q 14 _ rfl rfl rfl (QOp_mul _ _ _ _ _ _ _ rfl rfl rfl) ?_
  refine AOps_q 15 _ rfl rfl rfl (QOp_quo _ _ _ _ _ _ _ (by decide) rfl rfl rfl) ?_
  refine AOps_q 16 _ rfl rfl rfl (QOp_move _ _ rfl rfl) ?_
  refine AOps_q 17 _ rfl rfl rfl (QOp_add _ _ _ _ _ _ _ rfl rfl rfl) ?_
  refine AOps_q 4 _ rfl rfl rfl (QOp_assign _ _ rfl rfl) ?_
  refine AOps_nil ?_
  refine ACode_ret ?_
  cases h
  exact ⟨_, _, fun r a w h => ⟨r, h⟩, _, _, [], _, (.cons (ResV_tmp _ _ rfl) .nil), rfl, rfl, rfl, rfl, rfl⟩

-- (*loop.example/g01362/impl.Colouring).at
def impl_Colouring_at (p0 : Col) (p1 : Int) (p2 : Int) : Option (Int) :=
  (if 0 ≤ (impl_number p1 p2) ∧ (impl_number p1 p2) < 136 then some ((p0.get ((impl_number p1 p2).toNat)).toNat : Int) else none)
set_option maxRecDepth 100000 in
theorem impl_Colouring_at_ac (p0 : Col) (p1 : Int) (p2 : Int) (r : Int) (h : impl_Colouring_at p0 p1 p2 = some r) : AC Try.prog 62 [.d (.pv (colD p0) 0), iV p1, iV p2] [] (fun res H' => res = [iV r] ∧ H' = []) := by
  refine AC_of_body true Try.func62 rfl Try.ntmps62 (rvs := [.tmp 6]) rfl rfl (fun G hG => ?_)
  have hm : G.H.length = 0 := by rw [hG]; rfl
  have hz : zeroG G.H = true := by rw [hG]; rfl
  unfold impl_Colouring_at at h
  refine ACode_seq (ACode_region ?_)
  refine AOps_q 6 _ rfl rfl rfl (QOp_assign _ _ rfl rfl) ?_
  refine AOps_nil ?_
  refine ACode_seq (ACode_quiet mixed (by kernel_rfl) ?_)
  refine AQ_q 7 _ rfl rfl rfl (QOp_move _ _ rfl rfl) ?_
  refine AQ_q 8 _ rfl rfl rfl (QOp_move _ _ rfl rfl) ?_
  refine AQ_q 9 _ rfl rfl rfl (QOp_move _ _ rfl rfl) ?_
  refine AQ_call 10 _ _ _ _ _ _ _ _ _ rfl rfl rfl rfl rfl rfl rfl Try.call107 rfl rfl rfl (impl_number_ac p1 p2) ?_
  refine AQ_q 11 _ rfl rfl rfl (QOp_nilCheck_pv _ _ _ rfl rfl) ?_
  refine AQ_q 12 _ rfl rfl rfl (QOp_fieldAddr_pv _ _ _ _ _ 2 _ _ rfl Try.underlying24 rfl _ Try.sizeOf22 rfl rfl) ?_
  obtain ⟨hc2, h⟩ := guardO h
  refine AQ_q 13 _ rfl rfl rfl (QOp_indexAddrA_pv _ _ _ _ _ _ _ _ _ rfl Try.underlying22 Try.sizeOf5 hc2.1 hc2.2 rfl rfl) ?_
  refine AQ_q 14 _ rfl rfl rfl (QOp_load_pv _ _ _ _ _ rfl Try.isAgg5 rfl (colD_get _ _ (by omega))) ?_
  refine AQ_q 15 _ rfl rfl rfl (QOp_fromByte _ _ _ _ _ rfl rfl Try.underlying2 wrap_i64_byte rfl) ?_
  refine AQ_q 6 _ rfl rfl rfl (QOp_assign _ _ rfl rfl) ?_
  refine AQ_nil ?_
  refine ACode_ret ?_
  cases h
  exact ⟨_, _, fun r a w h => ⟨r, h⟩, _, _, [], _, (.cons (ResV_tmp _ _ rfl) .nil), rfl, rfl, rfl, rfl, rfl⟩

-- loop.example/g01362/impl.IsLesserColoured
def impl_IsLesserColoured_l1 (p0 : Col) (p1 : List Int) (x3 : Int) : Nat → Int → Option (Sum (Unit) (Sum (Unit) (Bool × Int)))
  | 0, _ => none
  | k1 + 1, x7 => (if decide (x7 < (((p1.take p1.length).drop (w64 (x3 + 1)).toNat).length : Int)) then (if 0 ≤ x7 ∧ x7 < (((p1.take p1.length).drop (w64 (x3 + 1)).toNat).length : Int) then (impl_Colouring_at p0 (p1.getD x3.toNat 0) (((p1.take p1.length).drop (w64 (x3 + 1)).toNat).getD x7.toNat 0)).bind fun r10 => (if 0 ≤ w64 (x3 + 1) ∧ w64 (x3 + 1) < (p1.length : Int) then (impl_Colouring_at p0 (p1.getD x3.toNat 0) (p1.getD (w64 (x3 + 1)).toNat 0)).bind fun r12 => (if !decide (r10 = r12) then (some (.inr (false, 0))).bind fun rr => some (.inr rr) else impl_IsLesserColoured_l1 p0 p1 x3 k1 (w64 (x7 + 1))) else none) else none) else some (.inl ()))
def impl_IsLesserColoured_l0 (k : Nat) (p0 : Col) (p1 : List Int) : Nat → Int → Option (Sum (Unit) (Bool × Int))
  | 0, _ => none
  | k0 + 1, x3 => (if decide (x3 < (p1.length : Int)) then ((if 0 ≤ x3 ∧ x3 < (p1.length : Int) then (if 0 ≤ w64 (x3 + 1) ∧ w64 (x3 + 1) ≤ (p1.length : Int) ∧ (p1.length : Int) ≤ (p1.length : Int) then impl_IsLesserColoured_l1 p0 p1 x3 k 0 else none) else none) : Option (Sum (Unit) (Sum (Unit) (Bool × Int)))).bind fun os14 => (match os14 with | .inl s14 => impl_IsLesserColoured_l0 k p0 p1 k0 (w64 (x3 + 1)) | .inr rr => some rr) else some (.inl ()))
def impl_IsLesserColoured (k : Nat) (p0 : Col) (p1 : List Int) : Option (Bool × Int) :=
  (impl_Colouring_code k p0 (impl_IsLesserColoured_c1 k p0 p1)).bind fun r1 => (if !decide (r1 = 0) then some (false, r1) else (impl_IsLesserColoured_l0 k p0 p1 k 0 : Option (Sum (Unit) (Bool × Int))).bind fun os15 => (match os15 with | .inl s15 => some (true, 0) | .inr rr => some rr))
set_option maxRecDepth 100000 in
theorem impl_IsLesserColoured_ac (k : Nat) (p0 : Col) (p1 : List Int) (r : Bool × Int) (h : impl_IsLesserColoured k p0 p1 = some r) : AC Try.prog 26 [.d (.agg (colD p0)), .d (.sl none (intsD p1))] [] (fun res H' => res = [bV r.1, iV r.2] ∧ H' = []) := by
  refine AC_of_body true Try.func26 rfl Try.ntmps26 (rvs := [.tmp 4, .tmp 5]) rfl rfl (fun G hG => ?_)
  have hm : G.H.length = 0 := by rw [hG]; rfl
  have hz : zeroG G.H = true := by rw [hG]; rfl
  unfold impl_IsLesserColoured at h
  refine ACode_seq (ACode_region ?_)
  refine AOps_boxI 2 _ _ (.agg (colD p0)) (colD p0) rfl (colD_one _) rfl rfl rfl rfl rfl ?_
  refine AOps_boxI 3 _ _ (.sl none (intsD p1)) _ rfl (fun c hc => by cases hc with | head => rfl | tail _ h => cases h) rfl rfl rfl rfl rfl ?_
  refine AOps_q 4 _ rfl rfl rfl (QOp_assign _ _ rfl rfl) ?_
  refine AOps_q 5 _ rfl rfl rfl (QOp_assign _ _ rfl rfl) ?_
  refine AOps_nil ?_
  refine ACode_seq ?_
  refine ACode_seq (ACode_region ?_)
  refine AOps_q 11 _ rfl rfl rfl (QOp_makeFuncD _ _ _ _ rfl rfl rfl) ?_
  obtain ⟨r1, hr1, h⟩ := bindO h
  refine AOps_call [] 12 _ _ _ _ _ _ _ _ _ _ rfl rfl rfl rfl rfl rfl rfl Try.call59 rfl (nodupB_sound _ rfl) rfl rfl rfl (impl_Colouring_code_ac k p0 (impl_IsLesserColoured_c1 k p0 p1) 60 ([.pv (colD p0) 0, .pv ([.sl none (intsD p1)]) 0]) Try.call60 (fun r h => impl_IsLesserColoured_c1_ac k p0 p1 r h) _ hr1) ?_
  rintro _ _ ⟨rfl, rfl⟩
  refine ⟨(fun _ h => nomatch h), (allc (trivial) (fun _ h => nomatch h)), AOps_as 12 (v' := iV r1) (H' := []) rfl rfl ?_⟩
  refine AOps_q 6 _ rfl rfl rfl (QOp_assign _ _ rfl rfl) ?_
  refine AOps_nil ?_
  refine ACode_seq (ACode_region ?_)
  refine AOps_q 13 _ rfl rfl rfl (QOp_move _ _ rfl rfl) ?_
  refine AOps_q 14 _ rfl rfl rfl (QOp_neq _ _ _ _ _ _ _ rfl rfl rfl) ?_
  refine AOps_nil ?_
  refine ACode_cond _ rfl (fun hb2 => ?_) (fun hb2 => ?_)
  · have h := iteT hb2 h
    refine ACode_seq (ACode_region ?_)
    refine AOps_q 15 _ rfl rfl rfl (QOp_move _ _ rfl rfl) ?_
    refine AOps_q 4 _ rfl rfl rfl (QOp_assign _ _ rfl rfl) ?_
    refine AOps_q 5 _ rfl rfl rfl (QOp_assign _ _ rfl rfl) ?_
    refine AOps_nil ?_
    refine ACode_ret ?_
    cases h
    exact ⟨_, _, fun r a w h => ⟨r, h⟩, _, _, [], _, (.cons (ResV_tmp _ _ rfl) (.cons (ResV_tmp _ _ rfl) .nil)), rfl, rfl, rfl, rfl, rfl⟩
  · have h := iteF hb2 h
    refine ACode_skip ?_
    obtain ⟨os15, hss15, hks15⟩ := bindO h
    clear h
    refine ACode_seqJ (fun E' H' => ∃ s15 : Unit, os15 = .inl s15 ∧ Weak 45 G E' H' [] []) ?_ ?_
    · have h := hss15
      clear hss15
      refine ACode_seq (ACode_region ?_)
      refine AOps_q 16 _ rfl rfl rfl (QOp_load_pv _ _ _ _ _ rfl Try.isAgg38 rfl rfl) ?_
      refine AOps_q 17 _ rfl rfl rfl (QOp_len_sl _ _ _ _ _ _ _ (intsD_length _) rfl rfl rfl rfl Try.underlying38 rfl) ?_
      refine AOps_q 18 _ rfl rfl rfl (QOp_move _ _ rfl rfl) ?_
      refine AOps_nil ?_
      refine ACode_block ?_
      refine ACode_loopW (fun k0 E H => ∃ (x3 : Int), E = [(2, .d (.pv (colD p0) 0)), (3, .d (.pv ([.sl none (intsD p1)]) 0)), (16, .d (.sl none (intsD p1))), (17, iV (p1.length : Int)), (18, iV x3)] ∧ H = [] ∧ impl_IsLesserColoured_l0 k p0 p1 k0 x3 = some os15) k _ _ (Weak_keep 0 hm [2, 3, 16, 17, 18] [] _ _ rfl rfl rfl) ⟨_, rfl, rfl, h⟩ ?_
      clear h
      rintro k0 E H ⟨x3, rfl, rfl, h⟩
      cases k0 with
      | zero => cases (show (none : Option (Sum (Unit) (Bool × Int))) = some _ from h)
      | succ k0 =>
        rw [impl_IsLesserColoured_l0] at h
        refine ACode_seq (ACode_region ?_)
        refine AOps_q 19 _ rfl rfl rfl (QOp_lss _ _ _ _ _ _ _ rfl rfl rfl) ?_
        refine AOps_nil ?_
        refine ACode_seq ?_
        refine ACode_cond _ rfl (fun hb4 => ?_) (fun hb4 => ?_)
        · have h := iteT hb4 h
          refine ACode_skip ?_
          obtain ⟨os14, hss14, hks14⟩ := bindO h
          clear h
          refine ACode_seqJ (fun E' H' => ∃ s14 : Unit, os14 = .inl s14 ∧ Weak 45 G E' H' [(2, .d (.pv (colD p0) 0)), (3, .d (.pv ([.sl none (intsD p1)]) 0)), (16, .d (.sl none (intsD p1))), (17, iV (p1.length : Int)), (18, iV x3)] []) ?_ ?_
          · have h := hss14
            clear hss14
            refine ACode_block ?_
            refine ACode_seq (ACode_region ?_)
            refine AOps_q 20 _ rfl rfl rfl (QOp_move _ _ rfl rfl) ?_
            obtain ⟨hc5, h⟩ := guardO h
            refine AOps_q 21 _ rfl rfl rfl (QOp_indexAddr_sl _ _ _ _ _ _ _ _ rfl Try.underlying38 Try.sizeOf2 hc5.1 (by rw [intsD_length]; exact hc5.2) rfl rfl) ?_
            refine AOps_q 22 _ rfl rfl rfl (QOp_load_pv _ _ _ _ _ rfl Try.isAgg2 rfl (intsD_get _ _ 0 (by omega))) ?_
            refine AOps_q 7 _ rfl rfl rfl (QOp_assign _ _ rfl rfl) ?_
            refine AOps_q 8 _ rfl rfl rfl (QOp_assign _ _ rfl rfl) ?_
            refine AOps_nil ?_
            refine ACode_seq (ACode_region ?_)
            refine AOps_q 23 _ rfl rfl rfl (QOp_load_pv _ _ _ _ _ rfl Try.isAgg38 rfl rfl) ?_
            refine AOps_q 24 _ rfl rfl rfl (QOp_move _ _ rfl rfl) ?_
            refine AOps_q 25 _ rfl rfl rfl (QOp_add _ _ _ _ _ _ _ rfl rfl rfl) ?_
            obtain ⟨hc6, h⟩ := guardO h
            refine AOps_q 26 _ rfl rfl rfl (QOp_slice_sl _ _ _ _ _ _ _ _ ((w64 (x3 + 1)).toNat) (p1.length) rfl Try.underlying38 Try.sizeOf2 rfl ⟨_, by rw [Int.toNat_of_nonneg (by omega)]; rfl⟩ (by rw [intsD_length]) (by omega) (by rw [intsD_length]; omega) (intsD_part _ _ _)) ?_
            refine AOps_q 27 _ rfl rfl rfl (QOp_len_sl _ _ _ _ _ _ _ (intsD_length _) rfl rfl rfl rfl Try.underlying38 rfl) ?_
            refine AOps_q 28 _ rfl rfl rfl (QOp_move _ _ rfl rfl) ?_
            refine AOps_nil ?_
            refine ACode_block ?_
            refine ACode_loopW (fun k1 E H => ∃ (x7 : Int), E = [(2, .d (.pv (colD p0) 0)), (3, .d (.pv ([.sl none (intsD p1)]) 0)), (7, iV x3), (8, iV (p1.getD x3.toNat 0)), (16, .d (.sl none (intsD p1))), (17, iV (p1.length : Int)), (18, iV x3), (26, .d (.sl none (intsD ((p1.take p1.length).drop (w64 (x3 + 1)).toNat)))), (27, iV (((p1.take p1.length).drop (w64 (x3 + 1)).toNat).length : Int)), (28, iV x7)] ∧ H = [] ∧ impl_IsLesserColoured_l1 p0 p1 x3 k1 x7 = some os14) k _ _ (Weak_keep 0 hm [2, 3, 7, 8, 16, 17, 18, 26, 27, 28] [] _ _ rfl rfl rfl) ⟨_, rfl, rfl, h⟩ ?_
            clear h
            rintro k1 E H ⟨x7, rfl, rfl, h⟩
            cases k1 with
            | zero => cases (show (none : Option (Sum (Unit) (Sum (Unit) (Bool × Int)))) = some _ from h)
            | succ k1 =>
              rw [impl_IsLesserColoured_l1] at h
              refine ACode_seq (ACode_region ?_)
              refine AOps_q 29 _ rfl rfl rfl (QOp_lss _ _ _ _ _ _ _ rfl rfl rfl) ?_
              refine AOps_nil ?_
              refine ACode_seq ?_
              refine ACode_cond _ rfl (fun hb8 => ?_) (fun hb8 => ?_)
              · have h := iteT hb8 h
                refine ACode_skip ?_
                refine ACode_seq ?_
                refine ACode_block ?_
                refine ACode_seq (ACode_region ?_)
                obtain ⟨hc9, h⟩ := guardO h
                refine AOps_q 30 _ rfl rfl rfl (QOp_indexAddr_sl _ _ _ _ _ _ _ _ rfl Try.underlying38 Try.sizeOf2 hc9.1 (by rw [intsD_length]; exact hc9.2) rfl rfl) ?_
                refine AOps_q 31 _ rfl rfl rfl (QOp_load_pv _ _ _ _ _ rfl Try.isAgg2 rfl (intsD_get _ _ 0 (by omega))) ?_
                refine AOps_q 10 _ rfl rfl rfl (QOp_assign _ _ rfl rfl) ?_
                refine AOps_nil ?_
                refine ACode_seq (ACode_quiet mixed (by kernel_rfl) ?_)
                refine AQ_q 32 _ rfl rfl rfl (QOp_move _ _ rfl rfl) ?_
                refine AQ_q 33 _ rfl rfl rfl (QOp_move _ _ rfl rfl) ?_
                obtain ⟨r10, hr10, h⟩ := bindO h
                refine AQ_call 34 _ _ _ _ _ _ _ _ _ rfl rfl rfl rfl rfl rfl rfl Try.call62 rfl rfl rfl (impl_Colouring_at_ac p0 (p1.getD x3.toNat 0) (((p1.take p1.length).drop (w64 (x3 + 1)).toNat).getD x7.toNat 0) _ hr10) ?_
                refine AQ_q 35 _ rfl rfl rfl (QOp_move _ _ rfl rfl) ?_
                refine AQ_q 36 _ rfl rfl rfl (QOp_load_pv _ _ _ _ _ rfl Try.isAgg38 rfl rfl) ?_
                refine AQ_q 37 _ rfl rfl rfl (QOp_move _ _ rfl rfl) ?_
                refine AQ_q 38 _ rfl rfl rfl (QOp_add _ _ _ _ _ _ _ rfl rfl rfl) ?_
                obtain ⟨hc11, h⟩ := guardO h
                refine AQ_q 39 _ rfl rfl rfl (QOp_indexAddr_sl _ _ _ _ _ _ _ _ rfl Try.underlying38 Try.sizeOf2 hc11.1 (by rw [intsD_length]; exact hc11.2) rfl rfl) ?_
                refine AQ_q 40 _ rfl rfl rfl (QOp_load_pv _ _ _ _ _ rfl Try.isAgg2 rfl (intsD_get _ _ 0 (by omega))) ?_
                obtain ⟨r12, hr12, h⟩ := bindO h
                refine AQ_call 41 _ _ _ _ _ _ _ _ _ rfl rfl rfl rfl rfl rfl rfl Try.call62 rfl rfl rfl (impl_Colouring_at_ac p0 (p1.getD x3.toNat 0) (p1.getD (w64 (x3 + 1)).toNat 0) _ hr12) ?_
                refine AQ_q 42 _ rfl rfl rfl (QOp_neq _ _ _ _ _ _ _ rfl rfl rfl) ?_
                refine AQ_nil ?_
                refine ACode_cond _ rfl (fun hb13 => ?_) (fun hb13 => ?_)
                · have h := iteT hb13 h
                  refine ACode_seq (ACode_region ?_)
                  refine AOps_q 4 _ rfl rfl rfl (QOp_assign _ _ rfl rfl) ?_
                  refine AOps_q 5 _ rfl rfl rfl (QOp_assign _ _ rfl rfl) ?_
                  refine AOps_nil ?_
                  refine ACode_ret ?_
                  obtain ⟨rr, hz16, h2⟩ := bindO h
                  obtain rfl := Option.some.inj h2
                  obtain rfl := Option.some.inj (show some rr = some _ from hks14)
                  have h := hz16
                  cases h
                  have h := hks15
                  cases h
                  exact ⟨_, _, fun r a w h => ⟨r, h⟩, _, _, [], _, (.cons (ResV_tmp _ _ rfl) (.cons (ResV_tmp _ _ rfl) .nil)), rfl, rfl, rfl, rfl, rfl⟩
                · have h := iteF hb13 h
                  refine ACode_skip ?_
                  refine (ACode_region ?_)
                  refine AOps_q 43 _ rfl rfl rfl (QOp_add _ _ _ _ _ _ _ rfl rfl rfl) ?_
                  refine AOps_q 28 _ rfl rfl rfl (QOp_move _ _ rfl rfl) ?_
                  refine AOps_nil ?_
                  exact ⟨k1, _, _, Nat.lt_succ_self _, Weak_keep 0 hm [2, 3, 7, 8, 16, 17, 18, 26, 27, 28] [] _ _ rfl rfl rfl, _, rfl, rfl, h⟩
              · have h := iteF hb8 h
                refine ACode_exit ?_
                cases h
                exact ⟨_, rfl, Weak_keep 0 hm [2, 3, 16, 17, 18] [] _ _ rfl rfl rfl⟩
          rintro E' H' ⟨s14, rfl, hw⟩
          refine ACode_weak hw ?_
          have h := hks14
          refine (ACode_region ?_)
          refine AOps_q 44 _ rfl rfl rfl (QOp_add _ _ _ _ _ _ _ rfl rfl rfl) ?_
          refine AOps_q 18 _ rfl rfl rfl (QOp_move _ _ rfl rfl) ?_
          refine AOps_nil ?_
          exact ⟨k0, _, _, Nat.lt_succ_self _, Weak_keep 0 hm [2, 3, 16, 17, 18] [] _ _ rfl rfl rfl, _, rfl, rfl, h⟩
        · have h := iteF hb4 h
          refine ACode_exit ?_
          cases h
          exact ⟨_, rfl, Weak_keep 0 hm [] [] _ _ rfl rfl rfl⟩
    rintro E' H' ⟨s15, rfl, hw⟩
    refine ACode_weak hw ?_
    have h := hks15
    refine ACode_seq (ACode_region ?_)
    refine AOps_q 4 _ rfl rfl rfl (QOp_assign _ _ rfl rfl) ?_
    refine AOps_q 5 _ rfl rfl rfl (QOp_assign _ _ rfl rfl) ?_
    refine AOps_nil ?_
    refine ACode_ret ?_
    cases h
    exact ⟨_, _, fun r a w h => ⟨r, h⟩, _, _, [], _, (.cons (ResV_tmp _ _ rfl) (.cons (ResV_tmp _ _ rfl) .nil)), rfl, rfl, rfl, rfl, rfl⟩

-- loop.example/g01362/laws.eqInt64S
def laws_eqInt64S_l0 (p0 : List Int) (p1 : List Int) : Nat → Int → Option (Sum (Unit) (Bool))
  | 0, _ => none
  | k0 + 1, x2 => (if decide (x2 < (p0.length : Int)) then (if 0 ≤ x2 ∧ x2 < (p0.length : Int) then (if 0 ≤ x2 ∧ x2 < (p1.length : Int) then (if !decide ((p0.getD x2.toNat 0) = (p1.getD x2.toNat 0)) then some (.inr false) else laws_eqInt64S_l0 p0 p1 k0 (w64 (x2 + 1))) else none) else none) else some (.inl ()))
def laws_eqInt64S (k : Nat) (p0 : List Int) (p1 : List Int) : Option (Bool) :=
  (if !decide ((p0.length : Int) = (p1.length : Int)) then some false else (laws_eqInt64S_l0 p0 p1 k 0 : Option (Sum (Unit) (Bool))).bind fun os7 => (match os7 with | .inl s7 => some true | .inr rr => some rr))
set_option maxRecDepth 100000 in
theorem laws_eqInt64S_ac (k : Nat) (p0 : List Int) (p1 : List Int) (r : Bool) (h : laws_eqInt64S k p0 p1 = some r) : AC Try.prog 27 [.d (.sl none (intsD p0)), .d (.sl none (intsD p1))] [] (fun res H' => res = [bV r] ∧ H' = []) := by
  refine AC_of_body true Try.func27 rfl Try.ntmps27 (rvs := [.tmp 4]) rfl rfl (fun G hG => ?_)
  have hm : G.H.length = 0 := by rw [hG]; rfl
  have hz : zeroG G.H = true := by rw [hG]; rfl
  unfold laws_eqInt64S at h
  refine ACode_seq (ACode_region ?_)
  refine AOps_q 4 _ rfl rfl rfl (QOp_assign _ _ rfl rfl) ?_
  refine AOps_nil ?_
  refine ACode_seq ?_
  refine ACode_seq (ACode_region ?_)
  refine AOps_q 6 _ rfl rfl rfl (QOp_move _ _ rfl rfl) ?_
  refine AOps_q 7 _ rfl rfl rfl (QOp_len_sl _ _ _ _ _ _ _ (intsD_length _) rfl rfl rfl rfl Try.underlying38 rfl) ?_
  refine AOps_q 8 _ rfl rfl rfl (QOp_move _ _ rfl rfl) ?_
  refine AOps_q 9 _ rfl rfl rfl (QOp_len_sl _ _ _ _ _ _ _ (intsD_length _) rfl rfl rfl rfl Try.underlying38 rfl) ?_
  refine AOps_q 10 _ rfl rfl rfl (QOp_neq _ _ _ _ _ _ _ rfl rfl rfl) ?_
  refine AOps_nil ?_
  refine ACode_cond _ rfl (fun hb1 => ?_) (fun hb1 => ?_)
  · have h := iteT hb1 h
    refine ACode_seq (ACode_region ?_)
    refine AOps_q 4 _ rfl rfl rfl (QOp_assign _ _ rfl rfl) ?_
    refine AOps_nil ?_
    refine ACode_ret ?_
    cases h
    exact ⟨_, _, fun r a w h => ⟨r, h⟩, _, _, [], _, (.cons (ResV_tmp _ _ rfl) .nil), rfl, rfl, rfl, rfl, rfl⟩
  · have h := iteF hb1 h
    refine ACode_skip ?_
    obtain ⟨os7, hss7, hks7⟩ := bindO h
    clear h
    refine ACode_seqJ (fun E' H' => ∃ s7 : Unit, os7 = .inl s7 ∧ Weak 26 G E' H' [] []) ?_ ?_
    · have h := hss7
      clear hss7
      refine ACode_seq (ACode_region ?_)
      refine AOps_q 5 _ rfl rfl rfl (QOp_assign _ _ rfl rfl) ?_
      refine AOps_nil ?_
      refine ACode_block ?_
      refine ACode_loopW (fun k0 E H => ∃ (x2 : Int), E = [(0, .d (.sl none (intsD p0))), (1, .d (.sl none (intsD p1))), (5, iV x2)] ∧ H = [] ∧ laws_eqInt64S_l0 p0 p1 k0 x2 = some os7) k _ _ (Weak_keep 0 hm [0, 1, 5] [] _ _ rfl rfl rfl) ⟨_, rfl, rfl, h⟩ ?_
      clear h
      rintro k0 E H ⟨x2, rfl, rfl, h⟩
      cases k0 with
      | zero => cases (show (none : Option (Sum (Unit) (Bool))) = some _ from h)
      | succ k0 =>
        rw [laws_eqInt64S_l0] at h
        refine ACode_seq ?_
        refine ACode_seq (ACode_region ?_)
        refine AOps_q 11 _ rfl rfl rfl (QOp_move _ _ rfl rfl) ?_
        refine AOps_q 12 _ rfl rfl rfl (QOp_move _ _ rfl rfl) ?_
        refine AOps_q 13 _ rfl rfl rfl (QOp_len_sl _ _ _ _ _ _ _ (intsD_length _) rfl rfl rfl rfl Try.underlying38 rfl) ?_
        refine AOps_q 14 _ rfl rfl rfl (QOp_lss _ _ _ _ _ _ _ rfl rfl rfl) ?_
        refine AOps_nil ?_
        refine ACode_cond _ rfl (fun hb3 => ?_) (fun hb3 => ?_)
        · have h := iteT hb3 h
          refine ACode_skip ?_
          refine ACode_seq ?_
          refine ACode_block ?_
          refine ACode_seq (ACode_quiet mixed (by kernel_rfl) ?_)
          refine AQ_q 17 _ rfl rfl rfl (QOp_move _ _ rfl rfl) ?_
          refine AQ_q 18 _ rfl rfl rfl (QOp_move _ _ rfl rfl) ?_
          obtain ⟨hc4, h⟩ := guardO h
          refine AQ_q 19 _ rfl rfl rfl (QOp_indexAddr_sl _ _ _ _ _ _ _ _ rfl Try.underlying38 Try.sizeOf2 hc4.1 (by rw [intsD_length]; exact hc4.2) rfl rfl) ?_
          refine AQ_q 20 _ rfl rfl rfl (QOp_load_pv _ _ _ _ _ rfl Try.isAgg2 rfl (intsD_get _ _ 0 (by omega))) ?_
          refine AQ_q 21 _ rfl rfl rfl (QOp_move _ _ rfl rfl) ?_
          refine AQ_q 22 _ rfl rfl rfl (QOp_move _ _ rfl rfl) ?_
          obtain ⟨hc5, h⟩ := guardO h
          refine AQ_q 23 _ rfl rfl rfl (QOp_indexAddr_sl _ _ _ _ _ _ _ _ rfl Try.underlying38 Try.sizeOf2 hc5.1 (by rw [intsD_length]; exact hc5.2) rfl rfl) ?_
          refine AQ_q 24 _ rfl rfl rfl (QOp_load_pv _ _ _ _ _ rfl Try.isAgg2 rfl (intsD_get _ _ 0 (by omega))) ?_
          refine AQ_q 25 _ rfl rfl rfl (QOp_neq _ _ _ _ _ _ _ rfl rfl rfl) ?_
          refine AQ_nil ?_
          refine ACode_cond _ rfl (fun hb6 => ?_) (fun hb6 => ?_)
          · have h := iteT hb6 h
            refine ACode_seq (ACode_region ?_)
            refine AOps_q 4 _ rfl rfl rfl (QOp_assign _ _ rfl rfl) ?_
            refine AOps_nil ?_
            refine ACode_ret ?_
            cases h
            have h := hks7
            cases h
            exact ⟨_, _, fun r a w h => ⟨r, h⟩, _, _, [], _, (.cons (ResV_tmp _ _ rfl) .nil), rfl, rfl, rfl, rfl, rfl⟩
          · have h := iteF hb6 h
            refine ACode_skip ?_
            refine (ACode_region ?_)
            refine AOps_q 15 _ rfl rfl rfl (QOp_move _ _ rfl rfl) ?_
            refine AOps_q 16 _ rfl rfl rfl (QOp_add _ _ _ _ _ _ _ rfl rfl rfl) ?_
            refine AOps_q 5 _ rfl rfl rfl (QOp_assign _ _ rfl rfl) ?_
            refine AOps_nil ?_
            exact ⟨k0, _, _, Nat.lt_succ_self _, Weak_keep 0 hm [0, 1, 5] [] _ _ rfl rfl rfl, _, rfl, rfl, h⟩
        · have h := iteF hb3 h
          refine ACode_exit ?_
          cases h
          exact ⟨_, rfl, Weak_keep 0 hm [] [] _ _ rfl rfl rfl⟩
    rintro E' H' ⟨s7, rfl, hw⟩
    refine ACode_weak hw ?_
    have h := hks7
    refine ACode_seq (ACode_region ?_)
    refine AOps_q 4 _ rfl rfl rfl (QOp_assign _ _ rfl rfl) ?_
    refine AOps_nil ?_
    refine ACode_ret ?_
    cases h
    exact ⟨_, _, fun r a w h => ⟨r, h⟩, _, _, [], _, (.cons (ResV_tmp _ _ rfl) .nil), rfl, rfl, rfl, rfl, rfl⟩

-- loop.example/g01362/laws.FnExactIsLesserColoured
def laws_FnExactIsLesserColoured (k : Nat) (p0 : Col) (p1 : List Int) : Option (Bool) :=
  (if decide (1048576 < (p1.length : Int)) then some true else (laws_toColouring k p0).bind fun r2 => (laws_toInt64S k p1).bind fun r3 => (spec_IsLesserColoured k r2 r3).bind fun r4 => (laws_toInt64S k p1).bind fun r5 => (laws_toColouring k p0).bind fun r6 => (impl_IsLesserColoured k r6 r5).bind fun r7 => (letO (if !(r7.1 == r4.1) then true else !decide (r7.2 = r4.2)) fun (s9 : Bool) => (if s9 then some (.inr false) else some (.inl ())) : Option (Sum (Unit) (Bool))).bind fun os11 => (match os11 with | .inl s11 => (laws_toInt64S k p1).bind fun r12 => (laws_eqInt64S k r5 r12).bind fun r13 => (if !r13 then some false else some true) | .inr rr => some rr))
set_option maxRecDepth 100000 in
theorem laws_FnExactIsLesserColoured_ac (k : Nat) (p0 : Col) (p1 : List Int) (r : Bool) (h : laws_FnExactIsLesserColoured k p0 p1 = some r) : AC Try.prog 5 [.d (.agg (colD p0)), .d (.sl none (intsD p1))] [] (fun res H' => res = [bV r] ∧ H' = []) := by
  refine AC_of_body true Try.func5 rfl Try.ntmps5 (rvs := [.tmp 4]) rfl rfl (fun G hG => ?_)
  have hm : G.H.length = 0 := by rw [hG]; rfl
  have hz : zeroG G.H = true := by rw [hG]; rfl
  unfold laws_FnExactIsLesserColoured at h
  refine ACode_seq (ACode_region ?_)
  refine AOps_boxI 2 _ _ (.agg (colD p0)) (colD p0) rfl (colD_one _) rfl rfl rfl rfl rfl ?_
  refine AOps_q 4 _ rfl rfl rfl (QOp_assign _ _ rfl rfl) ?_
  refine AOps_nil ?_
  refine ACode_seq ?_
  refine ACode_seq (ACode_region ?_)
  refine AOps_q 10 _ rfl rfl rfl (QOp_move _ _ rfl rfl) ?_
  refine AOps_q 11 _ rfl rfl rfl (QOp_len_sl _ _ _ _ _ _ _ (intsD_length _) rfl rfl rfl rfl Try.underlying38 rfl) ?_
  refine AOps_q 12 _ rfl rfl rfl (QOp_gtr _ _ _ _ _ _ _ rfl rfl rfl) ?_
  refine AOps_nil ?_
  refine ACode_cond _ rfl (fun hb1 => ?_) (fun hb1 => ?_)
  · have h := iteT hb1 h
    refine ACode_seq (ACode_region ?_)
    refine AOps_q 4 _ rfl rfl rfl (QOp_assign _ _ rfl rfl) ?_
    refine AOps_nil ?_
    refine ACode_ret ?_
    cases h
    exact ⟨_, _, fun r a w h => ⟨r, h⟩, _, _, [], _, (.cons (ResV_tmp _ _ rfl) .nil), rfl, rfl, rfl, rfl, rfl⟩
  · have h := iteF hb1 h
    refine ACode_skip ?_
    refine ACode_seq (ACode_region ?_)
    refine AOps_q 14 _ rfl rfl rfl (QOp_loadN_pv _ _ _ _ _ _ rfl Try.isAgg37 Try.sizeOf37 rfl (colD_all _) (colD_length _)) ?_
    obtain ⟨r2, hr2, h⟩ := bindO h
    refine AOps_call [] 15 _ _ _ _ _ _ _ _ _ _ rfl rfl rfl rfl rfl rfl rfl Try.call24 rfl (nodupB_sound _ rfl) rfl rfl rfl (laws_toColouring_ac k p0 _ hr2) ?_
    rintro _ _ ⟨rfl, rfl⟩
    refine ⟨(fun _ h => nomatch h), (allc (trivial) (fun _ h => nomatch h)), AOps_as 15 (v' := .d (.agg (colD r2))) (H' := []) rfl rfl ?_⟩
    refine AOps_q 16 _ rfl rfl rfl (QOp_move _ _ rfl rfl) ?_
    obtain ⟨r3, hr3, h⟩ := bindO h
    refine AOps_call [] 17 _ _ _ _ _ _ _ _ _ _ rfl rfl rfl rfl rfl rfl rfl Try.call25 rfl (nodupB_sound _ rfl) rfl rfl rfl (laws_toInt64S_ac k p1 _ hr3) ?_
    rintro _ _ ⟨rfl, rfl⟩
    refine ⟨(allc (fun _ _ => trivial) (fun _ h => nomatch h)), (allc (trivial) (fun _ h => nomatch h)), AOps_as 17 (v' := .vec 0 0) (H' := [.vec 0 (intsD r3)]) rfl rfl ?_⟩
    obtain ⟨r4, hr4, h⟩ := bindO h
    refine AOps_callL [] 18 _ _ _ _ _ _ _ _ _ _ rfl rfl rfl rfl rfl rfl rfl Try.call23 rfl (nodupB_sound _ rfl) rfl rfl rfl (spec_IsLesserColoured_ac k r2 r3 _ hr4) ?_
    rintro _ _ ⟨rfl, rfl⟩
    refine ⟨(fun _ h => nomatch h), (allc (flat_s _) (allc (flat_s _) (fun _ h => nomatch h))), AOps_as 18 (v' := .tup [bV r4.1, iV r4.2]) (H' := [.vec 0 (intsD r3)]) rfl rfl ?_⟩
    refine AOps_q 13 _ rfl rfl rfl (QOp_move _ _ rfl rfl) ?_
    refine AOps_q 19 _ rfl rfl rfl (QOp_extract _ _ _ _ rfl rfl rfl) ?_
    refine AOps_q 20 _ rfl rfl rfl (QOp_extract _ _ _ _ rfl rfl rfl) ?_
    refine AOps_q 5 _ rfl rfl rfl (QOp_assign _ _ rfl rfl) ?_
    refine AOps_q 6 _ rfl rfl rfl (QOp_assign _ _ rfl rfl) ?_
    refine AOps_nil ?_
    refine ACode_seq (ACode_region ?_)
    refine AOps_q 21 _ rfl rfl rfl (QOp_move _ _ rfl rfl) ?_
    obtain ⟨r5, hr5, h⟩ := bindO h
    refine AOps_call [] 22 _ _ _ _ _ _ _ _ _ _ rfl rfl rfl rfl rfl rfl rfl Try.call25 rfl (nodupB_sound _ rfl) rfl rfl rfl (laws_toInt64S_ac k p1 _ hr5) ?_
    rintro _ _ ⟨rfl, rfl⟩
    refine ⟨(allc (fun _ _ => trivial) (fun _ h => nomatch h)), (allc (trivial) (fun _ h => nomatch h)), AOps_as 22 (v' := .vec 1 0) (H' := [.vec 0 (intsD r3), .vec 0 (intsD r5)]) rfl rfl ?_⟩
    refine AOps_q 7 _ rfl rfl rfl (QOp_assign _ _ rfl rfl) ?_
    refine AOps_nil ?_
    refine ACode_seq (ACode_region ?_)
    refine AOps_q 24 _ rfl rfl rfl (QOp_loadN_pv _ _ _ _ _ _ rfl Try.isAgg37 Try.sizeOf37 rfl (colD_all _) (colD_length _)) ?_
    obtain ⟨r6, hr6, h⟩ := bindO h
    refine AOps_call [] 25 _ _ _ _ _ _ _ _ _ _ rfl rfl rfl rfl rfl rfl rfl Try.call24 rfl (nodupB_sound _ rfl) rfl rfl rfl (laws_toColouring_ac k p0 _ hr6) ?_
    rintro _ _ ⟨rfl, rfl⟩
    refine ⟨(fun _ h => nomatch h), (allc (trivial) (fun _ h => nomatch h)), AOps_as 25 (v' := .d (.agg (colD r6))) (H' := [.vec 0 (intsD r3), .vec 0 (intsD r5)]) rfl rfl ?_⟩
    refine AOps_q 26 _ rfl rfl rfl (QOp_move _ _ rfl rfl) ?_
    obtain ⟨r7, hr7, h⟩ := bindO h
    refine AOps_callL [] 27 _ _ _ _ _ _ _ _ _ _ rfl rfl rfl rfl rfl rfl rfl Try.call26 rfl (nodupB_sound _ rfl) rfl rfl rfl (impl_IsLesserColoured_ac k r6 r5 _ hr7) ?_
    rintro _ _ ⟨rfl, rfl⟩
    refine ⟨(fun _ h => nomatch h), (allc (flat_s _) (allc (flat_s _) (fun _ h => nomatch h))), AOps_as 27 (v' := .tup [bV r7.1, iV r7.2]) (H' := [.vec 0 (intsD r3), .vec 0 (intsD r5)]) rfl rfl ?_⟩
    refine AOps_q 23 _ rfl rfl rfl (QOp_move _ _ rfl rfl) ?_
    refine AOps_q 28 _ rfl rfl rfl (QOp_extract _ _ _ _ rfl rfl rfl) ?_
    refine AOps_q 29 _ rfl rfl rfl (QOp_extract _ _ _ _ rfl rfl rfl) ?_
    refine AOps_q 8 _ rfl rfl rfl (QOp_assign _ _ rfl rfl) ?_
    refine AOps_q 9 _ rfl rfl rfl (QOp_assign _ _ rfl rfl) ?_
    refine AOps_nil ?_
    obtain ⟨os11, hss11, hks11⟩ := bindO h
    clear h
    refine ACode_seqJ (fun E' H' => ∃ s11 : Unit, os11 = .inl s11 ∧ Weak 43 G E' H' [(1, .d (.sl none (intsD p1))), (7, .vec 0 0)] [.vec 0 (intsD r5)]) ?_ ?_
    · have h := hss11
      clear hss11
      obtain ⟨s9, hss9, hks9⟩ := letS h
      clear h
      refine ACode_seqJ (fun E' H' => Weak 43 G E' H' [(1, .d (.sl none (intsD p1))), (7, .vec 0 0), (37, bV s9)] [.vec 0 (intsD r5)]) ?_ ?_
      · have h := hss9
        clear hss9
        refine (ACode_region ?_)
        refine AOps_q 30 _ rfl rfl rfl (QOp_move _ _ rfl rfl) ?_
        refine AOps_q 31 _ rfl rfl rfl (QOp_move _ _ rfl rfl) ?_
        refine AOps_q 32 _ rfl rfl rfl (QOp_bneq _ _ _ _ _ _ rfl rfl rfl Try.underlying4) ?_
        refine AOps_q 33 _ rfl rfl rfl (QOp_move _ _ rfl rfl) ?_
        refine AOps_case 33 _ rfl (fun hb8 => ?_) (fun hb8 => ?_)
        · have h := iteT hb8 h
          refine AOps_skip 34 rfl rfl rfl ?_
          refine AOps_skip 35 rfl rfl rfl ?_
          refine AOps_skip 36 rfl rfl rfl ?_
          refine AOps_q 37 _ rfl rfl rfl (QOp_pick_t _ _ _ _ rfl rfl rfl) ?_
          refine AOps_nil ?_
          cases h
          exact Weak_keep 0 hm [1, 7, 37] [1] _ _ rfl rfl rfl
        · have h := iteF hb8 h
          refine AOps_q 34 _ rfl rfl rfl (QOp_move _ _ rfl rfl) ?_
          refine AOps_q 35 _ rfl rfl rfl (QOp_move _ _ rfl rfl) ?_
          refine AOps_q 36 _ rfl rfl rfl (QOp_neq _ _ _ _ _ _ _ rfl rfl rfl) ?_
          refine AOps_q 37 _ rfl rfl rfl (QOp_pick_f _ _ _ _ rfl rfl rfl) ?_
          refine AOps_nil ?_
          cases h
          exact Weak_keep 0 hm [1, 7, 37] [1] _ _ rfl rfl rfl
      intro E' H' hw
      refine ACode_weak hw ?_
      have h := hks9
      refine ACode_cond _ rfl (fun hb10 => ?_) (fun hb10 => ?_)
      · have h := iteT hb10 h
        refine ACode_seq (ACode_region ?_)
        refine AOps_q 4 _ rfl rfl rfl (QOp_assign _ _ rfl rfl) ?_
        refine AOps_nil ?_
        refine ACode_ret ?_
        cases h
        have h := hks11
        cases h
        exact ⟨_, _, fun r a w h => ⟨r, h⟩, _, _, [], _, (.cons (ResV_tmp _ _ rfl) .nil), rfl, rfl, rfl, rfl, rfl⟩
      · have h := iteF hb10 h
        refine ACode_skip ?_
        cases h
        exact ⟨_, rfl, Weak_keep 0 hm [1, 7] [0] _ _ rfl rfl rfl⟩
    rintro E' H' ⟨s11, rfl, hw⟩
    refine ACode_weak hw ?_
    have h := hks11
    refine ACode_seq ?_
    refine ACode_seq (ACode_region ?_)
    refine AOps_q 38 _ rfl rfl rfl (QOp_move _ _ rfl rfl) ?_
    refine AOps_q 39 _ rfl rfl rfl (QOp_move _ _ rfl rfl) ?_
    obtain ⟨r12, hr12, h⟩ := bindO h
    refine AOps_call [] 40 _ _ _ _ _ _ _ _ _ _ rfl rfl rfl rfl rfl rfl rfl Try.call25 rfl (nodupB_sound _ rfl) rfl rfl rfl (laws_toInt64S_ac k p1 _ hr12) ?_
    rintro _ _ ⟨rfl, rfl⟩
    refine ⟨(allc (fun _ _ => trivial) (fun _ h => nomatch h)), (allc (trivial) (fun _ h => nomatch h)), AOps_as 40 (v' := .vec 1 0) (H' := [.vec 0 (intsD r5), .vec 0 (intsD r12)]) rfl rfl ?_⟩
    obtain ⟨r13, hr13, h⟩ := bindO h
    refine AOps_callL [] 41 _ _ _ _ _ _ _ _ _ _ rfl rfl rfl rfl rfl rfl rfl Try.call27 rfl (nodupB_sound _ rfl) rfl rfl rfl (laws_eqInt64S_ac k r5 r12 _ hr13) ?_
    rintro _ _ ⟨rfl, rfl⟩
    refine ⟨(fun _ h => nomatch h), (allc (flat_s _) (fun _ h => nomatch h)), AOps_as 41 (v' := bV r13) (H' := [.vec 0 (intsD r5), .vec 0 (intsD r12)]) rfl rfl ?_⟩
    refine AOps_q 42 _ rfl rfl rfl (QOp_not _ _ _ rfl rfl) ?_
    refine AOps_nil ?_
    refine ACode_cond _ rfl (fun hb14 => ?_) (fun hb14 => ?_)
    · have h := iteT hb14 h
      refine ACode_seq (ACode_region ?_)
      refine AOps_q 4 _ rfl rfl rfl (QOp_assign _ _ rfl rfl) ?_
      refine AOps_nil ?_
      refine ACode_ret ?_
      cases h
      exact ⟨_, _, fun r a w h => ⟨r, h⟩, _, _, [], _, (.cons (ResV_tmp _ _ rfl) .nil), rfl, rfl, rfl, rfl, rfl⟩
    · have h := iteF hb14 h
      refine ACode_skip ?_
      refine ACode_seq (ACode_region ?_)
      refine AOps_q 4 _ rfl rfl rfl (QOp_assign _ _ rfl rfl) ?_
      refine AOps_nil ?_
      refine ACode_ret ?_
      cases h
      exact ⟨_, _, fun r a w h => ⟨r, h⟩, _, _, [], _, (.cons (ResV_tmp _ _ rfl) .nil), rfl, rfl, rfl, rfl, rfl⟩

end Go.Proofs.Ytjkanhdklfgghaa
