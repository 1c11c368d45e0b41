/- Plain functions of the program and that the program computes them: printed by the own tool gen.py. No conditions. -/
import Derived.Test.YtfoijbdnkkaceaaGen18d
set_option linter.unusedVariables false
set_option linter.unusedSimpArgs false
namespace Go.Proofs.Ytfoijbdnkkaceaa
open Go Go.RowKit Ab

-- (*loop.example/g01362/impl.Colouring).countThat
def impl_Colouring_countThat (k : Nat) (p0 : Col) (p1 : Int) (p2 : Int) (p3 : (List Int) → Option (Bool)) : Option (Int) :=
 (impl_Colouring_cliques_on_countThat_c1 k p0 p1 ([]) p2 p3 0).bind fun r1 => some r1.2
set_option maxRecDepth 100000 in
theorem impl_Colouring_countThat_ac (k : Nat) (p0 : Col) (p1 : Int) (p2 : Int) (p3 : (List Int) → Option (Bool)) (g_p3 : FuncId) (c_p3 : List D) (hg_p3 : ∀ args w, (callFunc g_p3 args).run Try.prog w = .ok (.enter g_p3 args) w) (hf_p3 : ∀ (a0 : List Int) (r : Bool), p3 a0 = some r → AC Try.prog g_p3 ([.d (.sl none (intsD a0))] ++ c_p3.map AV.d) [] (fun res H' => res = [bV r] ∧ H' = [])) (r : Int) (h : impl_Colouring_countThat k p0 p1 p2 p3 = some r) : AC Try.prog 110 [.d (.pv (colD p0) 0), iV p1, iV p2, .d (.clo g_p3 c_p3)] [] (fun res H' => res = [iV r] ∧ H' = []) := by
 refine AC_of_body true Try.func110 rfl Try.ntmps110 (rvs := [.tmp 8]) rfl rfl (fun G hG => ?_)
 have hm : G.H.length = 0 := by rw [hG]; rfl
 have hz : zeroG G.H = true := by rw [hG]; rfl
 unfold impl_Colouring_countThat at h
 refine ACode_seq (ACode_region ?_)
 refine AOps_boxI 6 _ _ (iD p2) _ rfl (fun c hc => by cases hc with | head => rfl | tail _ h => cases h) rfl rfl rfl rfl rfl ?_
 refine AOps_boxI 7 _ _ (.clo g_p3 c_p3) _ rfl (fun c hc => by cases hc with | head => rfl | tail _ h => cases h) rfl rfl rfl rfl rfl ?_
 refine AOps_q 8 _ rfl rfl rfl (QOp_assign _ _ rfl rfl) ?_
 refine AOps_nil ?_
 refine ACode_seq (ACode_region ?_)
 refine AOps_alloc 9 _ _ ([iD 0]) (zero_of Try.typeInfo2 rfl) (by rfl) rfl rfl rfl rfl ?_
 refine AOps_store1 _ _ _ _ _ _ _ _ rfl rfl rfl rfl rfl rfl rfl Try.sizeOf2 (Nat.le_of_ble_eq_true rfl) rfl ?_
 refine AOps_nil ?_
 refine ACode_seq (ACode_region ?_)
 refine AOps_q 10 _ rfl rfl rfl (QOp_move _ _ rfl rfl) ?_
 refine AOps_q 11 _ rfl rfl rfl (QOp_move _ _ rfl rfl) ?_
 refine AOps_q 12 _ rfl rfl rfl (QOp_makeFunc _ _ _ rfl rfl) ?_
 obtain ⟨r1, hr1, h⟩ := bindO h
 refine AOps_call [0] 13 _ _ _ _ _ _ _ _ _ _ rfl rfl rfl rfl rfl rfl rfl Try.call191 rfl (nodupB_sound _ rfl) rfl rfl rfl (impl_Colouring_cliques_on_countThat_c1_ac k p0 p1 ([]) p2 p3 0 g_p3 c_p3 hg_p3 hf_p3 _ hr1) ?_
 rintro _ _ ⟨rfl, rfl⟩
 refine ⟨(allc (fun _ _ => trivial) (fun _ h => nomatch h)), (allc (trivial) (fun _ h => nomatch h)), AOps_as 13 (v' := bV r1.1) (H' := [.box [iD r1.2]]) rfl rfl ?_⟩
 refine AOps_nil ?_
 refine ACode_seq (ACode_region ?_)
 refine AOps_q 14 _ rfl rfl rfl (QOp_load_ptr _ _ _ _ _ _ rfl Try.isAgg2 rfl rfl rfl) ?_
 refine AOps_q 8 _ rfl rfl rfl (QOp_assign _ _ rfl rfl) ?_
 refine AOps_nil ?_
 refine ACode_ret ?_
 cases h
 exact ⟨_, _, fun r a w h => ⟨r, h⟩, _, _, [], _, (.cons (ResV_tmp _ _ rfl) .nil), rfl, rfl, rfl, rfl, rfl⟩

-- loop.example/g01362/impl.anyList
def impl_anyList (p0 : List Int) : Bool :=
 true
set_option maxRecDepth 100000 in
theorem impl_anyList_ac (p0 : List Int) : AC Try.prog 111 [.d (.sl none (intsD p0))] [] (fun res H' => res = [bV (impl_anyList p0)] ∧ H' = []) := by
 refine AC_of_body true Try.func111 rfl Try.ntmps111 (rvs := [.tmp 2]) rfl rfl (fun G hG => ?_)
 have hm : G.H.length = 0 := by rw [hG]; rfl
 have hz : zeroG G.H = true := by rw [hG]; rfl
 obtain ⟨r, h⟩ : ∃ r, impl_anyList p0 = r := ⟨_, rfl⟩
 rw [h]
 unfold impl_anyList at h
 refine ACode_seq (ACode_region ?_)
 refine AOps_q 2 _ rfl rfl rfl (QOp_assign _ _ rfl rfl) ?_
 refine AOps_nil ?_
 refine ACode_seq (ACode_region ?_)
 refine AOps_q 2 _ rfl rfl rfl (QOp_assign _ _ rfl rfl) ?_
 refine AOps_nil ?_
 refine ACode_ret ?_
 cases h
 exact ⟨_, _, fun r a w h => ⟨r, h⟩, _, _, [], _, (.cons (ResV_tmp _ _ rfl) .nil), rfl, rfl, rfl, rfl, rfl⟩

-- loop.example/g01362/impl.CountCliques
def impl_CountCliques (k : Nat) (p0 : Col) (p1 : Int) (p2 : Int) : Option (Int × Int) :=
 (impl_Colouring_code k p0 (some (impl_CountCliques_c1 p0 p1 p2))).bind fun r1 => (if !decide (r1 = 0) then some (0, r1) else (impl_Colouring_countThat k p0 p1 p2 (fun a0 => some (impl_anyList a0))).bind fun r3 => some (r3, 0))
set_option maxRecDepth 100000 in
theorem impl_CountCliques_ac (k : Nat) (p0 : Col) (p1 : Int) (p2 : Int) (r : Int × Int) (h : impl_CountCliques k p0 p1 p2 = some r) : AC Try.prog 29 [.d (.agg (colD p0)), iV p1, iV p2] [] (fun res H' => res = [iV r.1, iV r.2] ∧ H' = []) := by
 refine AC_of_body true Try.func29 rfl Try.ntmps29 (rvs := [.tmp 6, .tmp 7]) rfl rfl (fun G hG => ?_)
 have hm : G.H.length = 0 := by rw [hG]; rfl
 have hz : zeroG G.H = true := by rw [hG]; rfl
 unfold impl_CountCliques at h
 refine ACode_seq (ACode_region ?_)
 refine AOps_boxI 3 _ _ (.agg (colD p0)) (colD p0) rfl (colD_one _) rfl rfl rfl rfl rfl ?_
 refine AOps_boxI 4 _ _ (iD p1) _ rfl (fun c hc => by cases hc with | head => rfl | tail _ h => cases h) rfl rfl rfl rfl rfl ?_
 refine AOps_boxI 5 _ _ (iD p2) _ rfl (fun c hc => by cases hc with | head => rfl | tail _ h => cases h) rfl rfl rfl rfl rfl ?_
 refine AOps_q 6 _ rfl rfl rfl (QOp_assign _ _ rfl rfl) ?_
 refine AOps_q 7 _ rfl rfl rfl (QOp_assign _ _ rfl rfl) ?_
 refine AOps_nil ?_
 refine ACode_seq ?_
 refine ACode_seq (ACode_region ?_)
 refine AOps_q 9 _ rfl rfl rfl (QOp_makeFuncD _ _ _ _ rfl rfl rfl) ?_
 obtain ⟨r1, hr1, h⟩ := bindO h
 refine AOps_call [] 10 _ _ _ _ _ _ _ _ _ _ rfl rfl rfl rfl rfl rfl rfl Try.call83 rfl (nodupB_sound _ rfl) rfl rfl rfl (impl_Colouring_code_ac k p0 (some (impl_CountCliques_c1 p0 p1 p2)) 109 ([.pv (colD p0) 0, .pv ([iD p1]) 0, .pv ([iD p2]) 0]) Try.call109 (fun r h => by cases h; exact impl_CountCliques_c1_ac p0 p1 p2) _ hr1) ?_
 rintro _ _ ⟨rfl, rfl⟩
 refine ⟨(fun _ h => nomatch h), (allc (trivial) (fun _ h => nomatch h)), AOps_as 10 (v' := iV r1) (H' := []) rfl rfl ?_⟩
 refine AOps_q 8 _ rfl rfl rfl (QOp_assign _ _ rfl rfl) ?_
 refine AOps_nil ?_
 refine ACode_seq (ACode_region ?_)
 refine AOps_q 11 _ rfl rfl rfl (QOp_move _ _ rfl rfl) ?_
 refine AOps_q 12 _ rfl rfl rfl (QOp_neq _ _ _ _ _ _ _ rfl rfl rfl) ?_
 refine AOps_nil ?_
 refine ACode_cond _ rfl (fun hb2 => ?_) (fun hb2 => ?_)
 ·have h := iteT hb2 h
  refine ACode_seq (ACode_region ?_)
  refine AOps_q 13 _ rfl rfl rfl (QOp_move _ _ rfl rfl) ?_
  refine AOps_q 6 _ rfl rfl rfl (QOp_assign _ _ rfl rfl) ?_
  refine AOps_q 7 _ rfl rfl rfl (QOp_assign _ _ rfl rfl) ?_
  refine AOps_nil ?_
  refine ACode_ret ?_
  cases h
  exact ⟨_, _, fun r a w h => ⟨r, h⟩, _, _, [], _, (.cons (ResV_tmp _ _ rfl) (.cons (ResV_tmp _ _ rfl) .nil)), rfl, rfl, rfl, rfl, rfl⟩
 ·have h := iteF hb2 h
  refine ACode_skip ?_
  refine ACode_seq (ACode_region ?_)
  refine AOps_q 14 _ rfl rfl rfl (QOp_load_pv _ _ _ _ _ rfl Try.isAgg2 rfl rfl) ?_
  refine AOps_q 15 _ rfl rfl rfl (QOp_load_pv _ _ _ _ _ rfl Try.isAgg2 rfl rfl) ?_
  obtain ⟨r3, hr3, h⟩ := bindO h
  refine AOps_call [] 16 _ _ _ _ _ _ _ _ _ _ rfl rfl rfl rfl rfl rfl rfl Try.call110 rfl (nodupB_sound _ rfl) rfl rfl rfl (impl_Colouring_countThat_ac k p0 p1 p2 (fun a0 => some (impl_anyList a0)) 111 ([]) Try.call111 (fun a0 r h => by cases h; exact impl_anyList_ac a0) _ hr3) ?_
  rintro _ _ ⟨rfl, rfl⟩
  refine ⟨(fun _ h => nomatch h), (allc (trivial) (fun _ h => nomatch h)), AOps_as 16 (v' := iV r3) (H' := []) rfl rfl ?_⟩
  refine AOps_q 6 _ rfl rfl rfl (QOp_assign _ _ rfl rfl) ?_
  refine AOps_q 7 _ rfl rfl rfl (QOp_assign _ _ rfl rfl) ?_
  refine AOps_nil ?_
  refine ACode_ret ?_
  cases h
  exact ⟨_, _, fun r a w h => ⟨r, h⟩, _, _, [], _, (.cons (ResV_tmp _ _ rfl) (.cons (ResV_tmp _ _ rfl) .nil)), rfl, rfl, rfl, rfl, rfl⟩

-- loop.example/g01362/spec.l02Count
def spec_l02Count_l0 (k : Nat) (self : (List Int) → Int → Int → Option (Int)) (p0 : List Int) (p2 : Int) : Nat → Int → Int → Int → Option (Int)
 | 0, _, _, _ => none
 | k0 + 1, x2, x3, x4 => (((if decide (x4 < (p0.length : Int)) then (spec_l01Ones k x2).bind fun r6 => some (decide (p2 ≤ r6)) else some false) : Option (Bool)).bind fun s7 => (if s7 then some (.inl ()) else (some x3).bind fun rr => some (.inr rr)) : Option (Sum (Unit) (Int))).bind fun os9 => (match os9 with | .inl s9 => ((if 0 ≤ IntKind.u64.wrap x4 then (if decide (bAnd .i64 (bShr .i64 x2 (IntKind.u64.wrap x4)) 1 = 1) then (if 0 ≤ IntKind.u64.wrap x4 then (if 0 ≤ x4 ∧ x4 < (p0.length : Int) then (self p0 (bAnd .i64 (bXor .i64 x2 (bShl .i64 1 (IntKind.u64.wrap x4))) (p0.getD x4.toNat 0)) (w64 (p2 - 1))).bind fun r14 => some (bXor .i64 x2 (bShl .i64 1 (IntKind.u64.wrap x4)), w64 (x3 + r14)) else none) else none) else some (x2, x3)) else none) : Option (Int × Int)).bind fun s15 => spec_l02Count_l0 k self p0 p2 k0 s15.1 s15.2 (w64 (x4 + 1)) | .inr rr => some rr)
def spec_l02Count_body (self : (List Int) → Int → Int → Option (Int)) (k : Nat) (p0 : List Int) (p1 : Int) (p2 : Int) : Option (Int) :=
 (if decide (p2 = 0) then some 1 else (spec_l02Count_l0 k self p0 p2 k p1 0 0 : Option (Int)).bind fun s16 => some s16)
def spec_l02Count : Nat → (List Int) → Int → Int → Option (Int)
 | 0, _, _, _ => none
 | k + 1, p0, p1, p2 => spec_l02Count_body (spec_l02Count k) k p0 p1 p2
set_option maxRecDepth 100000 in
theorem spec_l02Count_ac (k : Nat) (p0 : List Int) (p1 : Int) (p2 : Int) (r : Int) (h : spec_l02Count k p0 p1 p2 = some r) : AC Try.prog 112 [.d (.sl none (intsD p0)), iV p1, iV p2] [] (fun res H' => res = [iV r] ∧ H' = []) := by
 induction k generalizing p0 p1 p2 r with
 | zero => simp [spec_l02Count] at h
 | succ k ih =>
  rw [spec_l02Count] at h
  obtain ⟨self, hself, hk⟩ : ∃ self : (List Int) → Int → Int → Option (Int), (∀ (p0 : List Int) (p1 : Int) (p2 : Int) (r : Int), self p0 p1 p2 = some r → AC Try.prog 112 [.d (.sl none (intsD p0)), iV p1, iV p2] [] (fun res H' => res = [iV r] ∧ H' = [])) ∧ spec_l02Count k = self := ⟨spec_l02Count k, fun p0 p1 p2 r h => ih p0 p1 p2 r h, rfl⟩
  rw [hk] at h
  clear ih hk
  refine AC_of_body true Try.func112 rfl Try.ntmps112 (rvs := [.tmp 6]) rfl rfl (fun G hG => ?_)
  have hm : G.H.length = 0 := by rw [hG]; rfl
  have hz : zeroG G.H = true := by rw [hG]; rfl
  unfold spec_l02Count_body at h
  refine ACode_seq (ACode_region ?_)
  refine AOps_q 6 _ rfl rfl rfl (QOp_assign _ _ rfl rfl) ?_
  refine AOps_nil ?_
  refine ACode_seq ?_
  refine ACode_seq (ACode_region ?_)
  refine AOps_q 9 _ rfl rfl rfl (QOp_move _ _ rfl rfl) ?_
  refine AOps_q 10 _ rfl rfl rfl (QOp_eql _ _ _ _ _ _ _ rfl rfl rfl) ?_
  refine AOps_nil ?_
  refine ACode_cond _ rfl (fun hb1 => ?_) (fun hb1 => ?_)
  ·have h := iteT hb1 h
   refine ACode_seq (ACode_region ?_)
   refine AOps_q 6 _ rfl rfl rfl (QOp_assign _ _ rfl rfl) ?_
   refine AOps_nil ?_
   refine ACode_ret ?_
   cases h
   exact ⟨_, _, fun r a w h => ⟨r, h⟩, _, _, [], _, (.cons (ResV_tmp _ _ rfl) .nil), rfl, rfl, rfl, rfl, rfl⟩
  ·have h := iteF hb1 h
   refine ACode_skip ?_
   refine ACode_seq (ACode_region ?_)
   refine AOps_q 7 _ rfl rfl rfl (QOp_assign _ _ rfl rfl) ?_
   refine AOps_nil ?_
   obtain ⟨s16, hss16, hks16⟩ := bindO h
   clear h
   refine ACode_seqJ (fun E' H' => Weak 47 G E' H' [(7, iV s16)] []) ?_ ?_
   ·have h := hss16
    clear hss16
    refine ACode_seq (ACode_region ?_)
    refine AOps_q 8 _ rfl rfl rfl (QOp_assign _ _ rfl rfl) ?_
    refine AOps_nil ?_
    refine ACode_block ?_
    refine ACode_loopW (fun k0 E H => ∃ (x2 : Int) (x3 : Int) (x4 : Int), E = [(0, .d (.sl none (intsD p0))), (1, iV x2), (2, iV p2), (7, iV x3), (8, iV x4)] ∧ H = [] ∧ spec_l02Count_l0 k self p0 p2 k0 x2 x3 x4 = some s16) k _ _ (Weak_keep 0 hm [0, 1, 2, 7, 8] [] _ _ rfl rfl rfl) ⟨_, _, _, rfl, rfl, h⟩ ?_
    clear h
    rintro k0 E H ⟨x2, x3, x4, rfl, rfl, h⟩
    cases k0 with
    | zero => cases (show (none : Option (Int)) = some _ from h)
    | succ k0 =>
     rw [spec_l02Count_l0] at h
     obtain ⟨os9, hss9, hks9⟩ := bindO h
     clear h
     refine ACode_seqJ (fun E' H' => ∃ s9 : Unit, os9 = .inl s9 ∧ Weak 47 G E' H' [(0, .d (.sl none (intsD p0))), (1, iV x2), (2, iV p2), (7, iV x3), (8, iV x4)] []) ?_ ?_
     ·have h := hss9
      clear hss9
      obtain ⟨s7, hss7, hks7⟩ := bindO h
      clear h
      refine ACode_seqJ (fun E' H' => Weak 47 G E' H' [(0, .d (.sl none (intsD p0))), (1, iV x2), (2, iV p2), (7, iV x3), (8, iV x4), (20, bV s7)] []) ?_ ?_
      ·have h := hss7
       clear hss7
       refine (ACode_region ?_)
       refine AOps_q 11 _ rfl rfl rfl (QOp_move _ _ rfl rfl) ?_
       refine AOps_q 12 _ rfl rfl rfl (QOp_move _ _ rfl rfl) ?_
       refine AOps_q 13 _ rfl rfl rfl (QOp_len_sl _ _ _ _ _ _ _ (intsD_length _) rfl rfl rfl rfl Try.underlying24 rfl) ?_
       refine AOps_q 14 _ rfl rfl rfl (QOp_lss _ _ _ _ _ _ _ rfl rfl rfl) ?_
       refine AOps_q 15 _ rfl rfl rfl (QOp_move _ _ rfl rfl) ?_
       refine AOps_case 15 _ rfl (fun hb5 => ?_) (fun hb5 => ?_)
       ·have h := iteT hb5 h
        refine AOps_q 16 _ rfl rfl rfl (QOp_move _ _ rfl rfl) ?_
        obtain ⟨r6, hr6, h⟩ := bindO h
        refine AOps_call [] 17 _ _ _ _ _ _ _ _ _ _ rfl rfl rfl rfl rfl rfl rfl Try.call132 rfl (nodupB_sound _ rfl) rfl rfl rfl (spec_l01Ones_ac k x2 _ hr6) ?_
        rintro _ _ ⟨rfl, rfl⟩
        refine ⟨(fun _ h => nomatch h), (allc (trivial) (fun _ h => nomatch h)), AOps_as 17 (v' := iV r6) (H' := []) rfl rfl ?_⟩
        refine AOps_q 18 _ rfl rfl rfl (QOp_move _ _ rfl rfl) ?_
        refine AOps_q 19 _ rfl rfl rfl (QOp_geq _ _ _ _ _ _ _ rfl rfl rfl) ?_
        refine AOps_q 20 _ rfl rfl rfl (QOp_pick_t _ _ _ _ rfl rfl rfl) ?_
        refine AOps_nil ?_
        cases h
        exact Weak_keep 0 hm [0, 1, 2, 7, 8, 20] [] _ _ rfl rfl rfl
       ·have h := iteF hb5 h
        refine AOps_skip 16 rfl rfl rfl ?_
        refine AOps_skip 17 rfl rfl rfl ?_
        refine AOps_skip 18 rfl rfl rfl ?_
        refine AOps_skip 19 rfl rfl rfl ?_
        refine AOps_q 20 _ rfl rfl rfl (QOp_pick_f _ _ _ _ rfl rfl rfl) ?_
        refine AOps_nil ?_
        cases h
        exact Weak_keep 0 hm [0, 1, 2, 7, 8, 20] [] _ _ rfl rfl rfl
      intro E' H' hw
      refine ACode_weak hw ?_
      have h := hks7
      refine ACode_cond _ rfl (fun hb8 => ?_) (fun hb8 => ?_)
      ·have h := iteT hb8 h
       refine ACode_skip ?_
       cases h
       exact ⟨_, rfl, Weak_keep 0 hm [0, 1, 2, 7, 8] [] _ _ rfl rfl rfl⟩
      ·have h := iteF hb8 h
       refine ACode_exit ?_
       obtain ⟨rr, hz17, h2⟩ := bindO h
       obtain rfl := Option.some.inj h2
       obtain rfl := Option.some.inj (show some rr = some _ from hks9)
       have h := hz17
       cases h
       exact Weak_keep 0 hm [7] [] _ _ rfl rfl rfl
     rintro E' H' ⟨s9, rfl, hw⟩
     refine ACode_weak hw ?_
     have h := hks9
     obtain ⟨s15, hss15, hks15⟩ := bindO h
     clear h
     refine ACode_seqJ (fun E' H' => Weak 47 G E' H' [(0, .d (.sl none (intsD p0))), (1, iV s15.1), (2, iV p2), (7, iV s15.2), (8, iV x4)] []) ?_ ?_
     ·have h := hss15
      clear hss15
      refine ACode_block ?_
      refine ACode_seq (ACode_region ?_)
      refine AOps_q 23 _ rfl rfl rfl (QOp_move _ _ rfl rfl) ?_
      refine AOps_q 24 _ rfl rfl rfl (QOp_move _ _ rfl rfl) ?_
      refine AOps_q 25 _ rfl rfl rfl (QOp_conv _ _ _ _ _ _ rfl rfl Try.underlying106 rfl) ?_
      obtain ⟨hc10, h⟩ := guardO h
      refine AOps_q 26 _ rfl rfl rfl (QOp_shr _ _ _ _ _ _ _ _ hc10 rfl rfl rfl) ?_
      refine AOps_q 27 _ rfl rfl rfl (QOp_and _ _ _ _ _ _ _ rfl rfl rfl) ?_
      refine AOps_q 28 _ rfl rfl rfl (QOp_eql _ _ _ _ _ _ _ rfl rfl rfl) ?_
      refine AOps_nil ?_
      refine ACode_cond _ rfl (fun hb11 => ?_) (fun hb11 => ?_)
      ·have h := iteT hb11 h
       refine ACode_seq (ACode_region ?_)
       refine AOps_q 29 _ rfl rfl rfl (QOp_move _ _ rfl rfl) ?_
       refine AOps_q 30 _ rfl rfl rfl (QOp_move _ _ rfl rfl) ?_
       refine AOps_q 31 _ rfl rfl rfl (QOp_conv _ _ _ _ _ _ rfl rfl Try.underlying106 rfl) ?_
       obtain ⟨hc12, h⟩ := guardO h
       refine AOps_q 32 _ rfl rfl rfl (QOp_shl _ _ _ _ _ _ _ _ hc12 rfl rfl rfl) ?_
       refine AOps_q 33 _ rfl rfl rfl (QOp_xor _ _ _ _ _ _ _ rfl rfl rfl) ?_
       refine AOps_q 1 _ rfl rfl rfl (QOp_assign _ _ rfl rfl) ?_
       refine AOps_nil ?_
       refine (ACode_region ?_)
       refine AOps_q 34 _ rfl rfl rfl (QOp_move _ _ rfl rfl) ?_
       refine AOps_q 35 _ rfl rfl rfl (QOp_move _ _ rfl rfl) ?_
       refine AOps_q 36 _ rfl rfl rfl (QOp_move _ _ rfl rfl) ?_
       refine AOps_q 37 _ rfl rfl rfl (QOp_move _ _ rfl rfl) ?_
       refine AOps_q 38 _ rfl rfl rfl (QOp_move _ _ rfl rfl) ?_
       obtain ⟨hc13, h⟩ := guardO h
       refine AOps_q 39 _ rfl rfl rfl (QOp_indexAddr_sl _ _ _ _ _ _ _ _ rfl Try.underlying24 Try.sizeOf2 hc13.1 (by rw [intsD_length]; exact hc13.2) rfl rfl) ?_
       refine AOps_q 40 _ rfl rfl rfl (QOp_load_pv _ _ _ _ _ rfl Try.isAgg2 rfl (intsD_get _ _ 0 (by omega))) ?_
       refine AOps_q 41 _ rfl rfl rfl (QOp_and _ _ _ _ _ _ _ rfl rfl rfl) ?_
       refine AOps_q 42 _ rfl rfl rfl (QOp_move _ _ rfl rfl) ?_
       refine AOps_q 43 _ rfl rfl rfl (QOp_sub _ _ _ _ _ _ _ rfl rfl rfl) ?_
       obtain ⟨r14, hr14, h⟩ := bindO h
       refine AOps_call [] 44 _ _ _ _ _ _ _ _ _ _ rfl rfl rfl rfl rfl rfl rfl Try.call112 rfl (nodupB_sound _ rfl) rfl rfl rfl (hself p0 (bAnd .i64 (bXor .i64 x2 (bShl .i64 1 (IntKind.u64.wrap x4))) (p0.getD x4.toNat 0)) (w64 (p2 - 1)) _ hr14) ?_
       rintro _ _ ⟨rfl, rfl⟩
       refine ⟨(fun _ h => nomatch h), (allc (trivial) (fun _ h => nomatch h)), AOps_as 44 (v' := iV r14) (H' := []) rfl rfl ?_⟩
       refine AOps_q 45 _ rfl rfl rfl (QOp_add _ _ _ _ _ _ _ rfl rfl rfl) ?_
       refine AOps_q 7 _ rfl rfl rfl (QOp_assign _ _ rfl rfl) ?_
       refine AOps_nil ?_
       cases h
       exact Weak_keep 0 hm [0, 1, 2, 7, 8] [] _ _ rfl rfl rfl
      ·have h := iteF hb11 h
       refine ACode_skip ?_
       cases h
       exact Weak_keep 0 hm [0, 1, 2, 7, 8] [] _ _ rfl rfl rfl
     intro E' H' hw
     refine ACode_weak hw ?_
     have h := hks15
     refine (ACode_region ?_)
     refine AOps_q 21 _ rfl rfl rfl (QOp_move _ _ rfl rfl) ?_
     refine AOps_q 22 _ rfl rfl rfl (QOp_add _ _ _ _ _ _ _ rfl rfl rfl) ?_
     refine AOps_q 8 _ rfl rfl rfl (QOp_assign _ _ rfl rfl) ?_
     refine AOps_nil ?_
     exact ⟨k0, _, _, Nat.lt_succ_self _, Weak_keep 0 hm [0, 1, 2, 7, 8] [] _ _ rfl rfl rfl, _, _, _, rfl, rfl, h⟩
   intro E' H' hw
   refine ACode_weak hw ?_
   have h := hks16
   refine ACode_seq (ACode_region ?_)
   refine AOps_q 46 _ rfl rfl rfl (QOp_move _ _ rfl rfl) ?_
   refine AOps_q 6 _ rfl rfl rfl (QOp_assign _ _ rfl rfl) ?_
   refine AOps_nil ?_
   refine ACode_ret ?_
   cases h
   exact ⟨_, _, fun r a w h => ⟨r, h⟩, _, _, [], _, (.cons (ResV_tmp _ _ rfl) .nil), rfl, rfl, rfl, rfl, rfl⟩

-- loop.example/g01362/spec.CountCliques
def spec_CountCliques (k : Nat) (p0 : Col) (p1 : Int) (p2 : Int) : Option (Int × Int) :=
 (spec_l01Given k p0 p1 ([])).bind fun r1 => letO (letO (if decide (r1 = 0) then !(spec_l01In p2 0 17) else false) fun (s4 : Bool) => (if s4 then 2 else r1)) fun (s6 : Int) => (if !decide (s6 = 0) then some (0, s6) else (if 0 ≤ IntKind.u64.wrap p0.p then (spec_l02Rows k p0 p1).bind fun r9 => (spec_l02Count k r9 (w64 ((bShl .i64 1 (IntKind.u64.wrap p0.p)) - 1)) p2).bind fun r10 => some (r10, 0) else none))
set_option maxRecDepth 100000 in
theorem spec_CountCliques_ac (k : Nat) (p0 : Col) (p1 : Int) (p2 : Int) (r : Int × Int) (h : spec_CountCliques k p0 p1 p2 = some r) : AC Try.prog 30 [.d (.agg (colD p0)), iV p1, iV p2] [] (fun res H' => res = [iV r.1, iV r.2] ∧ H' = []) := by
 refine AC_of_body true Try.func30 rfl Try.ntmps30 (rvs := [.tmp 6, .tmp 7]) rfl rfl (fun G hG => ?_)
 have hm : G.H.length = 0 := by rw [hG]; rfl
 have hz : zeroG G.H = true := by rw [hG]; rfl
 unfold spec_CountCliques at h
 refine ACode_seq (ACode_region ?_)
 refine AOps_boxI 3 _ _ (.agg (colD p0)) (colD p0) rfl (colD_one _) rfl rfl rfl rfl rfl ?_
 refine AOps_q 6 _ rfl rfl rfl (QOp_assign _ _ rfl rfl) ?_
 refine AOps_q 7 _ rfl rfl rfl (QOp_assign _ _ rfl rfl) ?_
 refine AOps_nil ?_
 refine ACode_seq (ACode_region ?_)
 refine AOps_q 9 _ rfl rfl rfl (QOp_loadN_pv _ _ _ _ _ _ rfl Try.isAgg29 Try.sizeOf29 rfl (colD_all _) (colD_length _)) ?_
 refine AOps_q 10 _ rfl rfl rfl (QOp_move _ _ rfl rfl) ?_
 obtain ⟨r1, hr1, h⟩ := bindO h
 refine AOps_call [] 11 _ _ _ _ _ _ _ _ _ _ rfl rfl rfl rfl rfl rfl rfl Try.call107 rfl (nodupB_sound _ rfl) rfl rfl rfl (spec_l01Given_ac k p0 p1 ([]) _ hr1) ?_
 rintro _ _ ⟨rfl, rfl⟩
 refine ⟨(fun _ h => nomatch h), (allc (trivial) (fun _ h => nomatch h)), AOps_as 11 (v' := iV r1) (H' := []) rfl rfl ?_⟩
 refine AOps_q 8 _ rfl rfl rfl (QOp_assign _ _ rfl rfl) ?_
 refine AOps_nil ?_
 obtain ⟨s6, hss6, hks6⟩ := letS h
 clear h
 refine ACode_seqJ (fun E' H' => Weak 32 G E' H' [(1, iV p1), (2, iV p2), (3, .d (.pv (colD p0) 0)), (8, iV s6)] []) ?_ ?_
 ·have h := hss6
  clear hss6
  obtain ⟨s4, hss4, hks4⟩ := letS h
  clear h
  refine ACode_seqJ (fun E' H' => Weak 32 G E' H' [(1, iV p1), (2, iV p2), (3, .d (.pv (colD p0) 0)), (8, iV r1), (18, bV s4)] []) ?_ ?_
  ·have h := hss4
   clear hss4
   refine (ACode_region ?_)
   refine AOps_q 12 _ rfl rfl rfl (QOp_move _ _ rfl rfl) ?_
   refine AOps_q 13 _ rfl rfl rfl (QOp_eql _ _ _ _ _ _ _ rfl rfl rfl) ?_
   refine AOps_q 14 _ rfl rfl rfl (QOp_move _ _ rfl rfl) ?_
   refine AOps_case 14 _ rfl (fun hb2 => ?_) (fun hb2 => ?_)
   ·have h := iteT hb2 h
    refine AOps_q 15 _ rfl rfl rfl (QOp_move _ _ rfl rfl) ?_
    refine AOps_call [] 16 _ _ _ _ _ _ _ _ _ _ rfl rfl rfl rfl rfl rfl rfl Try.call100 rfl (nodupB_sound _ rfl) rfl rfl rfl (spec_l01In_ac p2 0 17) ?_
    rintro _ _ ⟨rfl, rfl⟩
    refine ⟨(fun _ h => nomatch h), (allc (trivial) (fun _ h => nomatch h)), AOps_as 16 (v' := bV (spec_l01In p2 0 17)) (H' := []) rfl rfl ?_⟩
    refine AOps_q 17 _ rfl rfl rfl (QOp_not _ _ _ rfl rfl) ?_
    refine AOps_q 18 _ rfl rfl rfl (QOp_pick_t _ _ _ _ rfl rfl rfl) ?_
    refine AOps_nil ?_
    cases h
    exact Weak_keep 0 hm [1, 2, 3, 8, 18] [] _ _ rfl rfl rfl
   ·have h := iteF hb2 h
    refine AOps_skip 15 rfl rfl rfl ?_
    refine AOps_skip 16 rfl rfl rfl ?_
    refine AOps_skip 17 rfl rfl rfl ?_
    refine AOps_q 18 _ rfl rfl rfl (QOp_pick_f _ _ _ _ rfl rfl rfl) ?_
    refine AOps_nil ?_
    cases h
    exact Weak_keep 0 hm [1, 2, 3, 8, 18] [] _ _ rfl rfl rfl
  intro E' H' hw
  refine ACode_weak hw ?_
  have h := hks4
  refine ACode_cond _ rfl (fun hb5 => ?_) (fun hb5 => ?_)
  ·have h := iteT hb5 h
   refine (ACode_region ?_)
   refine AOps_q 8 _ rfl rfl rfl (QOp_assign _ _ rfl rfl) ?_
   refine AOps_nil ?_
   cases h
   exact Weak_keep 0 hm [1, 2, 3, 8] [] _ _ rfl rfl rfl
  ·have h := iteF hb5 h
   refine ACode_skip ?_
   cases h
   exact Weak_keep 0 hm [1, 2, 3, 8] [] _ _ rfl rfl rfl
 intro E' H' hw
 refine ACode_weak hw ?_
 have h := hks6
 refine ACode_seq ?_
 refine ACode_seq (ACode_region ?_)
 refine AOps_q 19 _ rfl rfl rfl (QOp_move _ _ rfl rfl) ?_
 refine AOps_q 20 _ rfl rfl rfl (QOp_neq _ _ _ _ _ _ _ rfl rfl rfl) ?_
 refine AOps_nil ?_
 refine ACode_cond _ rfl (fun hb7 => ?_) (fun hb7 => ?_)
 ·have h := iteT hb7 h
  refine ACode_seq (ACode_region ?_)
  refine AOps_q 21 _ rfl rfl rfl (QOp_move _ _ rfl rfl) ?_
  refine AOps_q 6 _ rfl rfl rfl (QOp_assign _ _ rfl rfl) ?_
  refine AOps_q 7 _ rfl rfl rfl (QOp_assign _ _ rfl rfl) ?_
  refine AOps_nil ?_
  refine ACode_ret ?_
  cases h
  exact ⟨_, _, fun r a w h => ⟨r, h⟩, _, _, [], _, (.cons (ResV_tmp _ _ rfl) (.cons (ResV_tmp _ _ rfl) .nil)), rfl, rfl, rfl, rfl, rfl⟩
 ·have h := iteF hb7 h
  refine ACode_skip ?_
  obtain ⟨hc8, h⟩ := guardO h
  obtain ⟨r9, hr9, h⟩ := bindO h
  obtain ⟨r10, hr10, h⟩ := bindO h
  refine ACode_seqJ (fun E' H' => Weak 32 G E' H' [(6, iV r10), (7, iV 0)] []) ?_ ?_
  ·refine ACode_any mixed ?_
   refine AAny_q 0 22 _ rfl (by kernel_rfl) rfl rfl rfl (QOp_loadN_pv _ _ _ _ _ _ rfl Try.isAgg29 Try.sizeOf29 rfl (colD_all _) (colD_length _)) ?_
   refine AAny_q 1 23 _ rfl (by kernel_rfl) rfl rfl rfl (QOp_move _ _ rfl rfl) ?_
   refine AAny_q 3 25 _ rfl (by kernel_rfl) rfl rfl rfl (QOp_fieldAddr_pv _ _ _ _ _ 0 _ _ rfl Try.underlying29 rfl _ Try.sizeOf2 rfl rfl) ?_
   refine AAny_q 4 26 _ rfl (by kernel_rfl) rfl rfl rfl (QOp_load_pv _ _ _ _ _ rfl Try.isAgg2 rfl rfl) ?_
   refine AAny_q 5 27 _ rfl (by kernel_rfl) rfl rfl rfl (QOp_conv _ _ _ _ _ _ rfl rfl Try.underlying106 rfl) ?_
   refine AAny_q 6 28 _ rfl (by kernel_rfl) rfl rfl rfl (QOp_shl _ _ _ _ _ _ _ _ hc8 rfl rfl rfl) ?_
   refine AAny_q 7 29 _ rfl (by kernel_rfl) rfl rfl rfl (QOp_sub _ _ _ _ _ _ _ rfl rfl rfl) ?_
   refine AAny_q 8 30 _ rfl (by kernel_rfl) rfl rfl rfl (QOp_move _ _ rfl rfl) ?_
   refine AAny_all [2] (by kernel_rfl) rfl (allc ?_ (fun _ h => nomatch h))
   ·refine AStep_callN 2 24 _ _ _ _ _ _ _ _ _ rfl rfl rfl rfl rfl rfl rfl rfl Try.call113 rfl rfl rfl (spec_l02Rows_ac k p0 p1 _ hr9) ?_
    rintro _ _ ⟨rfl, rfl⟩
    refine ⟨(allc (fun _ _ => trivial) (fun _ h => nomatch h)), (allc (trivial) (fun _ h => nomatch h)), AAny_as 24 (v' := .vec 0 0) (H' := [.vec 0 (intsD r9)]) rfl rfl ?_⟩
    refine AAny_call 9 31 _ _ _ _ _ _ _ _ _ rfl (by kernel_rfl) rfl rfl rfl rfl rfl rfl rfl Try.call112 rfl rfl rfl (spec_l02Count_ac k r9 (w64 ((bShl .i64 1 (IntKind.u64.wrap p0.p)) - 1)) p2 _ hr10) ?_
    refine AAny_q 10 6 _ rfl (by kernel_rfl) rfl rfl rfl (QOp_assign _ _ rfl rfl) ?_
    refine AAny_q 11 7 _ rfl (by kernel_rfl) rfl rfl rfl (QOp_assign _ _ rfl rfl) ?_
    refine AAny_done (by kernel_rfl) ?_
    exact Weak_keep 0 hm [6, 7] [] _ _ rfl rfl rfl
  intro E' H' hw
  refine ACode_weak hw ?_
  refine ACode_ret ?_
  cases h
  exact ⟨_, _, fun r a w h => ⟨r, h⟩, _, _, [], _, (.cons (ResV_tmp _ _ rfl) (.cons (ResV_tmp _ _ rfl) .nil)), rfl, rfl, rfl, rfl, rfl⟩

-- loop.example/g01362/spec.DrawGreatestClique
def spec_DrawGreatestClique (k : Nat) (p0 : List UInt8) : Option (Col × Int) :=
 (spec_l02With k p0).bind fun r1 => some (r1.1, r1.2)
set_option maxRecDepth 100000 in
theorem spec_DrawGreatestClique_ac (k : Nat) (p0 : List UInt8) (r : Col × Int) (h : spec_DrawGreatestClique k p0 = some r) : AC Try.prog 31 [.d (.sl none (bysD p0))] [] (fun res H' => res = [.d (.agg (colD r.1)), iV r.2] ∧ H' = []) := by
 refine AC_of_body true Try.func31 rfl Try.ntmps31 (rvs := [.cell 2 29, .tmp 3]) rfl rfl (fun G hG => ?_)
 have hm : G.H.length = 0 := by rw [hG]; rfl
 have hz : zeroG G.H = true := by rw [hG]; rfl
 unfold spec_DrawGreatestClique at h
 refine ACode_seq (ACode_region ?_)
 refine AOps_alloc 2 _ _ (colD Col.zero) (zero_of Try.typeInfo29 rfl) (by rfl) rfl rfl rfl rfl ?_
 refine AOps_q 3 _ rfl rfl rfl (QOp_assign _ _ rfl rfl) ?_
 refine AOps_nil ?_
 refine ACode_seq (ACode_region ?_)
 refine AOps_q 4 _ rfl rfl rfl (QOp_move _ _ rfl rfl) ?_
 obtain ⟨r1, hr1, h⟩ := bindO h
 refine AOps_call [] 5 _ _ _ _ _ _ _ _ _ _ rfl rfl rfl rfl rfl rfl rfl Try.call114 rfl (nodupB_sound _ rfl) rfl rfl rfl (spec_l02With_ac k p0 _ hr1) ?_
 rintro _ _ ⟨rfl, rfl⟩
 refine ⟨(fun _ h => nomatch h), (allc (trivial) (allc (trivial) (fun _ h => nomatch h))), AOps_as 5 (v' := .tup [.d (.agg (colD r1.1)), iV r1.2]) (H' := [.box (colD Col.zero)]) rfl rfl ?_⟩
 refine AOps_q 6 _ rfl rfl rfl (QOp_extract _ _ _ _ rfl rfl rfl) ?_
 refine AOps_q 7 _ rfl rfl rfl (QOp_extract _ _ _ _ rfl rfl rfl) ?_
 refine AOps_store _ _ _ _ _ _ (colD _) _ _ rfl rfl rfl rfl rfl rfl rfl (colD_one _) (by rw [colD_length]; exact Try.sizeOf29) (by rw [colD_length, colD_length]; decide) (colD_whole _ _) ?_
 refine AOps_q 3 _ rfl rfl rfl (QOp_assign _ _ rfl rfl) ?_
 refine AOps_nil ?_
 refine ACode_ret ?_
 cases h
 exact ⟨_, _, fun r a w h => ⟨r, h⟩, _, _, [], _, (.cons (ResV_agg _ _ _ _ _ _ Try.isAgg29 Try.sizeOf29 rfl rfl (colD_take _) (colD_length _)) (.cons (ResV_tmp _ _ rfl) .nil)), rfl, rfl, rfl, rfl, rfl⟩

-- loop.example/g01362/impl.GreatestClique$1
def impl_GreatestClique_c1 (p0 : Col) (p1 : Int) : Bool :=
 (impl_Colouring_hasColour p0 p1)
set_option maxRecDepth 100000 in
theorem impl_GreatestClique_c1_ac (p0 : Col) (p1 : Int) : AC Try.prog 115 [.d (.pv (colD p0) 0), .d (.pv ([iD p1]) 0)] [] (fun res H' => res = [bV (impl_GreatestClique_c1 p0 p1)] ∧ H' = []) := by
 refine AC_of_body true Try.func115 rfl Try.ntmps115 (rvs := [.tmp 2]) rfl rfl (fun G hG => ?_)
 have hm : G.H.length = 0 := by rw [hG]; rfl
 have hz : zeroG G.H = true := by rw [hG]; rfl
 obtain ⟨r, h⟩ : ∃ r, impl_GreatestClique_c1 p0 p1 = r := ⟨_, rfl⟩
 rw [h]
 unfold impl_GreatestClique_c1 at h
 refine ACode_seq (ACode_region ?_)
 refine AOps_q 2 _ rfl rfl rfl (QOp_assign _ _ rfl rfl) ?_
 refine AOps_nil ?_
 refine ACode_seq (ACode_region ?_)
 refine AOps_q 3 _ rfl rfl rfl (QOp_load_pv _ _ _ _ _ rfl Try.isAgg2 rfl rfl) ?_
 refine AOps_call [] 4 _ _ _ _ _ _ _ _ _ _ rfl rfl rfl rfl rfl rfl rfl Try.call103 rfl (nodupB_sound _ rfl) rfl rfl rfl (impl_Colouring_hasColour_ac p0 p1) ?_
 rintro _ _ ⟨rfl, rfl⟩
 refine ⟨(fun _ h => nomatch h), (allc (trivial) (fun _ h => nomatch h)), AOps_as 4 (v' := bV (impl_Colouring_hasColour p0 p1)) (H' := []) rfl rfl ?_⟩
 refine AOps_q 2 _ rfl rfl rfl (QOp_assign _ _ rfl rfl) ?_
 refine AOps_nil ?_
 refine ACode_ret ?_
 cases h
 exact ⟨_, _, fun r a w h => ⟨r, h⟩, _, _, [], _, (.cons (ResV_tmp _ _ rfl) .nil), rfl, rfl, rfl, rfl, rfl⟩

-- (*loop.example/g01362/impl.Colouring).greatest$1
def impl_Colouring_greatest_c1 (p0 : List Int) (p1 : List Int) : Bool × List Int :=
 letO (if decide ((p1.length : Int) < (p0.length : Int)) then p0 else p1) fun (s2 : List Int) => (true, s2)
set_option maxRecDepth 100000 in
theorem impl_Colouring_greatest_c1_ac (p0 : List Int) (p1 : List Int) : AC Try.prog 195 [.d (.sl none (intsD p0)), .ptr 0 0] [.box [.sl none (intsD p1)]] (fun res H' => res = [bV ((impl_Colouring_greatest_c1 p0 p1).1)] ∧ H' = [.box [.sl none (intsD ((impl_Colouring_greatest_c1 p0 p1).2))]]) := by
 refine AC_of_body true Try.func195 rfl Try.ntmps195 (rvs := [.tmp 3]) rfl rfl (fun G hG => ?_)
 have hm : G.H.length = 1 := by rw [hG]; rfl
 have hz : zeroG G.H = true := by rw [hG]; rfl
 obtain ⟨r, h⟩ : ∃ r, impl_Colouring_greatest_c1 p0 p1 = r := ⟨_, rfl⟩
 rw [h]
 unfold impl_Colouring_greatest_c1 at h
 refine ACode_seq (ACode_region ?_)
 refine AOps_q 3 _ rfl rfl rfl (QOp_assign _ _ rfl rfl) ?_
 refine AOps_nil ?_
 obtain ⟨s2, hss2, hks2⟩ := letS h
 clear h
 refine ACode_seqJ (fun E' H' => Weak 10 G E' H' [] [.box [.sl none (intsD s2)]]) ?_ ?_
 ·have h := hss2
  clear hss2
  refine ACode_seq (ACode_region ?_)
  refine AOps_q 4 _ rfl rfl rfl (QOp_move _ _ rfl rfl) ?_
  refine AOps_q 5 _ rfl rfl rfl (QOp_len_sl _ _ _ _ _ _ _ (intsD_length _) rfl rfl rfl rfl Try.underlying24 rfl) ?_
  refine AOps_q 6 _ rfl rfl rfl (QOp_load_ptr _ _ _ _ _ _ rfl Try.isAgg24 rfl rfl rfl) ?_
  refine AOps_q 7 _ rfl rfl rfl (QOp_len_sl _ _ _ _ _ _ _ (intsD_length _) rfl rfl rfl rfl Try.underlying24 rfl) ?_
  refine AOps_q 8 _ rfl rfl rfl (QOp_gtr _ _ _ _ _ _ _ rfl rfl rfl) ?_
  refine AOps_nil ?_
  refine ACode_cond _ rfl (fun hb1 => ?_) (fun hb1 => ?_)
  ·have h := iteT hb1 h
   refine (ACode_region ?_)
   refine AOps_q 9 _ rfl rfl rfl (QOp_move _ _ rfl rfl) ?_
   refine AOps_store1 _ _ _ _ _ _ _ _ rfl rfl rfl rfl rfl rfl rfl Try.sizeOf24 (Nat.le_of_ble_eq_true rfl) rfl ?_
   refine AOps_nil ?_
   cases h
   exact Weak_keep 1 hm [] [] _ _ rfl rfl rfl
  ·have h := iteF hb1 h
   refine ACode_skip ?_
   cases h
   exact Weak_keep 1 hm [] [] _ _ rfl rfl rfl
 intro E' H' hw
 refine ACode_weak hw ?_
 have h := hks2
 refine ACode_seq (ACode_region ?_)
 refine AOps_q 3 _ rfl rfl rfl (QOp_assign _ _ rfl rfl) ?_
 refine AOps_nil ?_
 refine ACode_ret ?_
 cases h
 exact ⟨_, _, fun r a w h => ⟨r, h⟩, _, _, [], _, (.cons (ResV_tmp _ _ rfl) .nil), rfl, rfl, rfl, rfl, rfl⟩

-- (*loop.example/g01362/impl.Colouring).cliques
def impl_Colouring_cliques_on_greatest_c1_l0 (k : Nat) (self : Col → Int → (List Int) → (List Int) → Option (Bool × List Int)) (p0 : Col) (p1 : Int) (p2 : List Int) : Nat → Int → (List Int) → Option (Sum (List Int) (Bool × List Int))
 | 0, _, _ => none
 | k0 + 1, x6, x7 => (if decide (x6 < p0.p) then (((impl_Colouring_goesWith k p0 p1 p2 x6).bind fun r9 => (if r9 then (if p2.isEmpty then (if ([x6]).length ≤ 1099511627776 ∧ ([x6]).length ≠ 0 then (self p0 p1 ([x6]) x7).bind fun r14 => some (!r14.1, r14.2) else none) else (cloneA p2).bind fun r15 => (if r15.length + ([x6]).length ≤ 1099511627776 then (self p0 p1 (r15 ++ ([x6])) x7).bind fun r17 => some (!r17.1, r17.2) else none)) else some (false, x7)) : Option (Bool × List Int)).bind fun s18 => (if s18.1 then (some (.inr (false, s18.2))).bind fun rr => some (.inr rr) else some (.inl s18.2)) : Option (Sum (List Int) (Sum (List Int) (Bool × List Int)))).bind fun os20 => (match os20 with | .inl s20 => impl_Colouring_cliques_on_greatest_c1_l0 k self p0 p1 p2 k0 (w64 (x6 + 1)) s20 | .inr rr => some rr) else some (.inl x7))
def impl_Colouring_cliques_on_greatest_c1_body (self : Col → Int → (List Int) → (List Int) → Option (Bool × List Int)) (k : Nat) (p0 : Col) (p1 : Int) (p2 : List Int) (p3_0 : List Int) : Option (Bool × List Int) :=
 (if !((impl_Colouring_greatest_c1 p2 p3_0).1) then some (false, (impl_Colouring_greatest_c1 p2 p3_0).2) else ((if decide (0 < (p2.length : Int)) then (if 0 ≤ w64 ((p2.length : Int) - 1) ∧ w64 ((p2.length : Int) - 1) < (p2.length : Int) then some (w64 ((p2.getD (w64 ((p2.length : Int) - 1)).toNat 0) + 1)) else none) else some 0) : Option (Int)).bind fun s5 => (impl_Colouring_cliques_on_greatest_c1_l0 k self p0 p1 p2 k s5 ((impl_Colouring_greatest_c1 p2 p3_0).2) : Option (Sum (List Int) (Bool × List Int))).bind fun os21 => (match os21 with | .inl s21 => some (true, s21) | .inr rr => some rr))
def impl_Colouring_cliques_on_greatest_c1 : Nat → Col → Int → (List Int) → (List Int) → Option (Bool × List Int)
 | 0, _, _, _, _ => none
 | k + 1, p0, p1, p2, p3_0 => impl_Colouring_cliques_on_greatest_c1_body (impl_Colouring_cliques_on_greatest_c1 k) k p0 p1 p2 p3_0
set_option maxRecDepth 100000 in
theorem impl_Colouring_cliques_on_greatest_c1_ac (k : Nat) (p0 : Col) (p1 : Int) (p2 : List Int) (p3_0 : List Int) (r : Bool × List Int) (h : impl_Colouring_cliques_on_greatest_c1 k p0 p1 p2 p3_0 = some r) : AC Try.prog 191 [.d (.pv (colD p0) 0), iV p1, .d (.sl none (intsD p2)), .clo 195 [.ptr 0 0]] [.box [.sl none (intsD p3_0)]] (fun res H' => res = [bV r.1] ∧ H' = [.box [.sl none (intsD r.2)]]) := by
 induction k generalizing p0 p1 p2 p3_0 r with
 | zero => simp [impl_Colouring_cliques_on_greatest_c1] at h
 | succ k ih =>
  rw [impl_Colouring_cliques_on_greatest_c1] at h
  obtain ⟨self, hself, hk⟩ : ∃ self : Col → Int → (List Int) → (List Int) → Option (Bool × List Int), (∀ (p0 : Col) (p1 : Int) (p2 : List Int) (p3_0 : List Int) (r : Bool × List Int), self p0 p1 p2 p3_0 = some r → AC Try.prog 191 [.d (.pv (colD p0) 0), iV p1, .d (.sl none (intsD p2)), .clo 195 [.ptr 0 0]] [.box [.sl none (intsD p3_0)]] (fun res H' => res = [bV r.1] ∧ H' = [.box [.sl none (intsD r.2)]])) ∧ impl_Colouring_cliques_on_greatest_c1 k = self := ⟨impl_Colouring_cliques_on_greatest_c1 k, fun p0 p1 p2 p3_0 r h => ih p0 p1 p2 p3_0 r h, rfl⟩
  rw [hk] at h
  clear ih hk
  refine AC_of_body true Try.func191 rfl Try.ntmps191 (rvs := [.tmp 8]) rfl rfl (fun G hG => ?_)
  have hm : G.H.length = 1 := by rw [hG]; rfl
  have hz : zeroG G.H = true := by rw [hG]; rfl
  unfold impl_Colouring_cliques_on_greatest_c1_body at h
  refine ACode_seq (ACode_region ?_)
  refine AOps_q 8 _ rfl rfl rfl (QOp_assign _ _ rfl rfl) ?_
  refine AOps_nil ?_
  refine ACode_seq ?_
  refine ACode_seq (ACode_region ?_)
  refine AOps_q 11 _ rfl rfl rfl (QOp_move _ _ rfl rfl) ?_
  refine AOps_q 12 _ rfl rfl rfl (QOp_move _ _ rfl rfl) ?_
  refine AOps_call [0] 13 _ _ _ _ _ _ _ _ _ _ rfl rfl rfl rfl rfl rfl rfl Try.call195 rfl (nodupB_sound _ rfl) rfl rfl rfl (impl_Colouring_greatest_c1_ac p2 p3_0) ?_
  rintro _ _ ⟨rfl, rfl⟩
  refine ⟨(allc (fun _ _ => trivial) (fun _ h => nomatch h)), (allc (trivial) (fun _ h => nomatch h)), AOps_as 13 (v' := bV ((impl_Colouring_greatest_c1 p2 p3_0).1)) (H' := [.box [.sl none (intsD ((impl_Colouring_greatest_c1 p2 p3_0).2))]]) rfl rfl ?_⟩
  refine AOps_q 14 _ rfl rfl rfl (QOp_not _ _ _ rfl rfl) ?_
  refine AOps_nil ?_
  refine ACode_cond _ rfl (fun hb2 => ?_) (fun hb2 => ?_)
  ·have h := iteT hb2 h
   refine ACode_seq (ACode_region ?_)
   refine AOps_q 8 _ rfl rfl rfl (QOp_assign _ _ rfl rfl) ?_
   refine AOps_nil ?_
   refine ACode_ret ?_
   cases h
   exact ⟨_, _, fun r a w h => ⟨r, h⟩, _, _, [], _, (.cons (ResV_tmp _ _ rfl) .nil), rfl, rfl, rfl, rfl, rfl⟩
  ·have h := iteF hb2 h
   refine ACode_skip ?_
   refine ACode_seq (ACode_region ?_)
   refine AOps_q 9 _ rfl rfl rfl (QOp_assign _ _ rfl rfl) ?_
   refine AOps_nil ?_
   obtain ⟨s5, hss5, hks5⟩ := bindO h
   clear h
   refine ACode_seqJ (fun E' H' => Weak 51 G E' H' [(0, .d (.pv (colD p0) 0)), (1, iV p1), (2, .d (.sl none (intsD p2))), (3, .clo 195 [.ptr 0 0]), (9, iV s5)] [.box [.sl none (intsD ((impl_Colouring_greatest_c1 p2 p3_0).2))]]) ?_ ?_
   ·have h := hss5
    clear hss5
    refine ACode_seq (ACode_region ?_)
    refine AOps_q 15 _ rfl rfl rfl (QOp_move _ _ rfl rfl) ?_
    refine AOps_q 16 _ rfl rfl rfl (QOp_len_sl _ _ _ _ _ _ _ (intsD_length _) rfl rfl rfl rfl Try.underlying24 rfl) ?_
    refine AOps_q 17 _ rfl rfl rfl (QOp_gtr _ _ _ _ _ _ _ rfl rfl rfl) ?_
    refine AOps_nil ?_
    refine ACode_cond _ rfl (fun hb3 => ?_) (fun hb3 => ?_)
    ·have h := iteT hb3 h
     refine (ACode_region ?_)
     refine AOps_q 18 _ rfl rfl rfl (QOp_move _ _ rfl rfl) ?_
     refine AOps_q 19 _ rfl rfl rfl (QOp_move _ _ rfl rfl) ?_
     refine AOps_q 20 _ rfl rfl rfl (QOp_len_sl _ _ _ _ _ _ _ (intsD_length _) rfl rfl rfl rfl Try.underlying24 rfl) ?_
     refine AOps_q 21 _ rfl rfl rfl (QOp_sub _ _ _ _ _ _ _ rfl rfl rfl) ?_
     obtain ⟨hc4, h⟩ := guardO h
     refine AOps_q 22 _ rfl rfl rfl (QOp_indexAddr_sl _ _ _ _ _ _ _ _ rfl Try.underlying24 Try.sizeOf2 hc4.1 (by rw [intsD_length]; exact hc4.2) rfl rfl) ?_
     refine AOps_q 23 _ rfl rfl rfl (QOp_load_pv _ _ _ _ _ rfl Try.isAgg2 rfl (intsD_get _ _ 0 (by omega))) ?_
     refine AOps_q 24 _ rfl rfl rfl (QOp_add _ _ _ _ _ _ _ rfl rfl rfl) ?_
     refine AOps_q 9 _ rfl rfl rfl (QOp_assign _ _ rfl rfl) ?_
     refine AOps_nil ?_
     cases h
     exact Weak_keep 1 hm [0, 1, 2, 3, 9] [] _ _ rfl rfl rfl
    ·have h := iteF hb3 h
     refine ACode_skip ?_
     cases h
     exact Weak_keep 1 hm [0, 1, 2, 3, 9] [] _ _ rfl rfl rfl
   intro E' H' hw
   refine ACode_weak hw ?_
   have h := hks5
   obtain ⟨os21, hss21, hks21⟩ := bindO h
   clear h
   refine ACode_seqJ (fun E' H' => ∃ s21 : List Int, os21 = .inl s21 ∧ Weak 51 G E' H' [] [.box [.sl none (intsD s21)]]) ?_ ?_
   ·have h := hss21
    clear hss21
    refine ACode_seq (ACode_region ?_)
    refine AOps_q 25 _ rfl rfl rfl (QOp_move _ _ rfl rfl) ?_
    refine AOps_q 10 _ rfl rfl rfl (QOp_assign _ _ rfl rfl) ?_
    refine AOps_nil ?_
    refine ACode_block ?_
    refine ACode_loopW (fun k0 E H => ∃ (x6 : Int) (x7 : List Int), E = [(0, .d (.pv (colD p0) 0)), (1, iV p1), (2, .d (.sl none (intsD p2))), (3, .clo 195 [.ptr 0 0]), (10, iV x6)] ∧ H = [.box [.sl none (intsD x7)]] ∧ impl_Colouring_cliques_on_greatest_c1_l0 k self p0 p1 p2 k0 x6 x7 = some os21) k _ _ (Weak_keep 1 hm [0, 1, 2, 3, 10] [] _ _ rfl rfl rfl) ⟨_, _, rfl, rfl, h⟩ ?_
    clear h
    rintro k0 E H ⟨x6, x7, rfl, rfl, h⟩
    cases k0 with
    | zero => cases (show (none : Option (Sum (List Int) (Bool × List Int))) = some _ from h)
    | succ k0 =>
     rw [impl_Colouring_cliques_on_greatest_c1_l0] at h
     refine ACode_seq ?_
     refine ACode_seq (ACode_region ?_)
     refine AOps_q 26 _ rfl rfl rfl (QOp_move _ _ rfl rfl) ?_
     refine AOps_q 27 _ rfl rfl rfl (QOp_move _ _ rfl rfl) ?_
     refine AOps_q 28 _ rfl rfl rfl (QOp_nilCheck_pv _ _ _ rfl rfl) ?_
     refine AOps_q 29 _ rfl rfl rfl (QOp_fieldAddr_pv _ _ _ _ _ 0 _ _ rfl Try.underlying29 rfl _ Try.sizeOf2 rfl rfl) ?_
     refine AOps_q 30 _ rfl rfl rfl (QOp_load_pv _ _ _ _ _ rfl Try.isAgg2 rfl rfl) ?_
     refine AOps_q 31 _ rfl rfl rfl (QOp_lss _ _ _ _ _ _ _ rfl rfl rfl) ?_
     refine AOps_nil ?_
     refine ACode_cond _ rfl (fun hb8 => ?_) (fun hb8 => ?_)
     ·have h := iteT hb8 h
      refine ACode_skip ?_
      obtain ⟨os20, hss20, hks20⟩ := bindO h
      clear h
      refine ACode_seqJ (fun E' H' => ∃ s20 : List Int, os20 = .inl s20 ∧ Weak 51 G E' H' [(0, .d (.pv (colD p0) 0)), (1, iV p1), (2, .d (.sl none (intsD p2))), (3, .clo 195 [.ptr 0 0]), (10, iV x6)] [.box [.sl none (intsD s20)]]) ?_ ?_
      ·have h := hss20
       clear hss20
       refine ACode_block ?_
       obtain ⟨s18, hss18, hks18⟩ := bindO h
       clear h
       refine ACode_seqJ (fun E' H' => Weak 51 G E' H' [(0, .d (.pv (colD p0) 0)), (1, iV p1), (2, .d (.sl none (intsD p2))), (3, .clo 195 [.ptr 0 0]), (10, iV x6), (50, bV s18.1)] [.box [.sl none (intsD s18.2)]]) ?_ ?_
       ·have h := hss18
        clear hss18
        refine (ACode_region ?_)
        refine AOps_q 34 _ rfl rfl rfl (QOp_move _ _ rfl rfl) ?_
        refine AOps_q 35 _ rfl rfl rfl (QOp_move _ _ rfl rfl) ?_
        refine AOps_q 36 _ rfl rfl rfl (QOp_move _ _ rfl rfl) ?_
        refine AOps_q 37 _ rfl rfl rfl (QOp_move _ _ rfl rfl) ?_
        obtain ⟨r9, hr9, h⟩ := bindO h
        refine AOps_call [] 38 _ _ _ _ _ _ _ _ _ _ rfl rfl rfl rfl rfl rfl rfl Try.call138 rfl (nodupB_sound _ rfl) rfl rfl rfl (impl_Colouring_goesWith_ac k p0 p1 p2 x6 _ hr9) ?_
        rintro _ _ ⟨rfl, rfl⟩
        refine ⟨(fun _ h => nomatch h), (allc (trivial) (fun _ h => nomatch h)), AOps_as 38 (v' := bV r9) (H' := [.box [.sl none (intsD x7)]]) rfl rfl ?_⟩
        refine AOps_q 39 _ rfl rfl rfl (QOp_move _ _ rfl rfl) ?_
        refine AOps_case 39 _ rfl (fun hb10 => ?_) (fun hb10 => ?_)
        ·have h := iteT hb10 h
         refine AOps_q 40 _ rfl rfl rfl (QOp_move _ _ rfl rfl) ?_
         refine AOps_q 41 _ rfl rfl rfl (QOp_move _ _ rfl rfl) ?_
         refine AOps_q 42 _ rfl rfl rfl (QOp_move _ _ rfl rfl) ?_
         refine bsplit (p2.isEmpty) (fun hb11 => ?_) (fun hb11 => ?_)
         ·have h := iteT hb11 h
          refine AOps_call [] 43 _ _ _ _ _ _ _ _ _ _ rfl rfl rfl rfl rfl rfl rfl Try.call96 rfl (nodupB_sound _ rfl) rfl rfl rfl (cloneB_ac p2 hb11) ?_
          rintro _ _ ⟨rfl, rfl⟩
          refine ⟨(fun _ h => nomatch h), (allc (trivial) (fun _ h => nomatch h)), AOps_as 43 (v' := .d (.se none)) (H' := [.box [.sl none (intsD x7)]]) rfl rfl ?_⟩
          refine AOps_q 44 _ rfl rfl rfl (QOp_move _ _ rfl rfl) ?_
          refine AOps_buildSlice 45 _ _ _ [_] (intsD ([x6])) _ rfl rfl rfl rfl rfl (by decide) Try.underlying24 Try.sizeOf2 (zero_of Try.typeInfo2 rfl) rfl rfl (intsD_one _) ?_
          obtain ⟨hc13, h⟩ := guardO h
          refine AOps_append0 46 _ _ _ _ _ _ _ _ _ _ rfl rfl rfl rfl rfl rfl rfl Try.underlying24 Try.type2 rfl rfl rfl (by decide) rfl rfl rfl (intsD_one _) (by rw [intsD_length]; exact hc13.1) (by rw [intsD_length]; exact hc13.2) ?_
          refine AOps_q 47 _ rfl rfl rfl (QOp_move _ _ rfl rfl) ?_
          refine AOps_freezeL [46] 2 0 _ (allc (rfl) (fun _ h => nomatch h)) rfl ?_
          obtain ⟨r14, hr14, h⟩ := bindO h
          refine AOps_call [0] 48 _ _ _ _ _ _ _ _ _ _ rfl rfl rfl rfl rfl rfl rfl Try.call191 rfl (nodupB_sound _ rfl) rfl rfl rfl (hself p0 p1 ([x6]) x7 _ hr14) ?_
          rintro _ _ ⟨rfl, rfl⟩
          refine ⟨(allc (fun _ _ => trivial) (fun _ h => nomatch h)), (allc (trivial) (fun _ h => nomatch h)), AOps_as 48 (v' := bV r14.1) (H' := [.box [.sl none (intsD r14.2)], .vec 0 (intsD ([x6])), .gone]) rfl rfl ?_⟩
          refine AOps_q 49 _ rfl rfl rfl (QOp_not _ _ _ rfl rfl) ?_
          refine AOps_q 50 _ rfl rfl rfl (QOp_pick_t _ _ _ _ rfl rfl rfl) ?_
          refine AOps_nil ?_
          cases h
          exact Weak_keep 1 hm [0, 1, 2, 3, 10, 50] [] _ _ rfl rfl rfl
         ·have h := iteF hb11 h
          obtain ⟨r15, hr15, h⟩ := bindO h
          refine AOps_call [] 43 _ _ _ _ _ _ _ _ _ _ rfl rfl rfl rfl rfl rfl rfl Try.call96 rfl (nodupB_sound _ rfl) rfl rfl rfl (cloneA_ac p2 _ hb11 hr15) ?_
          rintro _ _ ⟨rfl, rfl⟩
          refine ⟨(allc (fun _ _ => trivial) (fun _ h => nomatch h)), (allc (trivial) (fun _ h => nomatch h)), AOps_as 43 (v' := .vec 1 0) (H' := [.box [.sl none (intsD x7)], .vec 0 (intsD r15)]) rfl rfl ?_⟩
          refine AOps_q 44 _ rfl rfl rfl (QOp_move _ _ rfl rfl) ?_
          refine AOps_buildSlice 45 _ _ _ [_] (intsD ([x6])) _ rfl rfl rfl rfl rfl (by decide) Try.underlying24 Try.sizeOf2 (zero_of Try.typeInfo2 rfl) rfl rfl (intsD_one _) ?_
          obtain ⟨hc16, h⟩ := guardO h
          refine AOps_append 46 _ _ _ _ _ _ _ _ _ _ _ _ rfl rfl rfl rfl rfl rfl rfl Try.underlying24 Try.type2 rfl rfl rfl (by decide) rfl rfl rfl rfl (intsD_one _) (by rw [intsD_length, intsD_length]; exact hc16) ?_
          rw [intsD_app]
          refine AOps_q 47 _ rfl rfl rfl (QOp_move _ _ rfl rfl) ?_
          refine AOps_freezeL [46] 1 1 _ (allc (rfl) (fun _ h => nomatch h)) rfl ?_
          obtain ⟨r17, hr17, h⟩ := bindO h
          refine AOps_call [0] 48 _ _ _ _ _ _ _ _ _ _ rfl rfl rfl rfl rfl rfl rfl Try.call191 rfl (nodupB_sound _ rfl) rfl rfl rfl (hself p0 p1 (r15 ++ ([x6])) x7 _ hr17) ?_
          rintro _ _ ⟨rfl, rfl⟩
          refine ⟨(allc (fun _ _ => trivial) (fun _ h => nomatch h)), (allc (trivial) (fun _ h => nomatch h)), AOps_as 48 (v' := bV r17.1) (H' := [.box [.sl none (intsD r17.2)], .gone, .vec 0 (intsD ([x6]))]) rfl rfl ?_⟩
          refine AOps_q 49 _ rfl rfl rfl (QOp_not _ _ _ rfl rfl) ?_
          refine AOps_q 50 _ rfl rfl rfl (QOp_pick_t _ _ _ _ rfl rfl rfl) ?_
          refine AOps_nil ?_
          cases h
          exact Weak_keep 1 hm [0, 1, 2, 3, 10, 50] [] _ _ rfl rfl rfl
        ·have h := iteF hb10 h
         refine AOps_skip 40 rfl rfl rfl ?_
         refine AOps_skip 41 rfl rfl rfl ?_
         refine AOps_skip 42 rfl rfl rfl ?_
         refine AOps_skip 43 rfl rfl rfl ?_
         refine AOps_skip 44 rfl rfl rfl ?_
         refine AOps_skip 45 rfl rfl rfl ?_
         refine AOps_skip 46 rfl rfl rfl ?_
         refine AOps_skip 47 rfl rfl rfl ?_
         refine AOps_skip 48 rfl rfl rfl ?_
         refine AOps_skip 49 rfl rfl rfl ?_
         refine AOps_q 50 _ rfl rfl rfl (QOp_pick_f _ _ _ _ rfl rfl rfl) ?_
         refine AOps_nil ?_
         cases h
         exact Weak_keep 1 hm [0, 1, 2, 3, 10, 50] [] _ _ rfl rfl rfl
       intro E' H' hw
       refine ACode_weak hw ?_
       have h := hks18
       refine ACode_cond _ rfl (fun hb19 => ?_) (fun hb19 => ?_)
       ·have h := iteT hb19 h
        refine ACode_seq (ACode_region ?_)
        refine AOps_q 8 _ rfl rfl rfl (QOp_assign _ _ rfl rfl) ?_
        refine AOps_nil ?_
        refine ACode_ret ?_
        obtain ⟨rr, hz22, h2⟩ := bindO h
        obtain rfl := Option.some.inj h2
        obtain rfl := Option.some.inj (show some rr = some _ from hks20)
        have h := hz22
        cases h
        have h := hks21
        cases h
        exact ⟨_, _, fun r a w h => ⟨r, h⟩, _, _, [], _, (.cons (ResV_tmp _ _ rfl) .nil), rfl, rfl, rfl, rfl, rfl⟩
       ·have h := iteF hb19 h
        refine ACode_skip ?_
        cases h
        exact ⟨_, rfl, Weak_keep 1 hm [0, 1, 2, 3, 10] [] _ _ rfl rfl rfl⟩
      rintro E' H' ⟨s20, rfl, hw⟩
      refine ACode_weak hw ?_
      have h := hks20
      refine (ACode_region ?_)
      refine AOps_q 32 _ rfl rfl rfl (QOp_move _ _ rfl rfl) ?_
      refine AOps_q 33 _ rfl rfl rfl (QOp_add _ _ _ _ _ _ _ rfl rfl rfl) ?_
      refine AOps_q 10 _ rfl rfl rfl (QOp_assign _ _ rfl rfl) ?_
      refine AOps_nil ?_
      exact ⟨k0, _, _, Nat.lt_succ_self _, Weak_keep 1 hm [0, 1, 2, 3, 10] [] _ _ rfl rfl rfl, _, _, rfl, rfl, h⟩
     ·have h := iteF hb8 h
      refine ACode_exit ?_
      cases h
      exact ⟨_, rfl, Weak_keep 1 hm [] [] _ _ rfl rfl rfl⟩
   rintro E' H' ⟨s21, rfl, hw⟩
   refine ACode_weak hw ?_
   have h := hks21
   refine ACode_seq (ACode_region ?_)
   refine AOps_q 8 _ rfl rfl rfl (QOp_assign _ _ rfl rfl) ?_
   refine AOps_nil ?_
   refine ACode_ret ?_
   cases h
   exact ⟨_, _, fun r a w h => ⟨r, h⟩, _, _, [], _, (.cons (ResV_tmp _ _ rfl) .nil), rfl, rfl, rfl, rfl, rfl⟩

-- (*loop.example/g01362/impl.Colouring).greatest
def impl_Colouring_greatest (k : Nat) (p0 : Col) (p1 : Int) : Option (List Int) :=
 (impl_Colouring_cliques_on_greatest_c1 k p0 p1 ([]) ([] : List Int)).bind fun r1 => some r1.2
set_option maxRecDepth 100000 in
theorem impl_Colouring_greatest_ac (k : Nat) (p0 : Col) (p1 : Int) (r : List Int) (h : impl_Colouring_greatest k p0 p1 = some r) : AC Try.prog 116 [.d (.pv (colD p0) 0), iV p1] [] (fun res H' => res = [.d (.sl none (intsD r))] ∧ H' = []) := by
 refine AC_of_body true Try.func116 rfl Try.ntmps116 (rvs := [.tmp 4]) rfl rfl (fun G hG => ?_)
 have hm : G.H.length = 0 := by rw [hG]; rfl
 have hz : zeroG G.H = true := by rw [hG]; rfl
 unfold impl_Colouring_greatest at h
 refine ACode_seq (ACode_region ?_)
 refine AOps_q 4 _ rfl rfl rfl (QOp_assign _ _ rfl rfl) ?_
 refine AOps_nil ?_
 refine ACode_seq (ACode_region ?_)
 refine AOps_buildSlice 6 _ _ _ [] (intsD ([] : List Int)) _ rfl rfl rfl rfl rfl (by decide) Try.underlying24 Try.sizeOf2 (zero_of Try.typeInfo2 rfl) rfl rfl (intsD_one _) ?_
 refine AOps_alloc 5 _ _ ([.sl (some true) []]) (zero_of Try.typeInfo24 rfl) (by rfl) rfl rfl rfl rfl ?_
 refine AOps_freeze 6 0 0 _ rfl rfl ?_
 refine AOps_store1 _ _ _ _ _ _ _ _ rfl rfl rfl rfl rfl rfl rfl Try.sizeOf24 (Nat.le_of_ble_eq_true rfl) rfl ?_
 refine AOps_nil ?_
 refine ACode_seq (ACode_region ?_)
 refine AOps_q 7 _ rfl rfl rfl (QOp_move _ _ rfl rfl) ?_
 refine AOps_q 8 _ rfl rfl rfl (QOp_move _ _ rfl rfl) ?_
 refine AOps_q 9 _ rfl rfl rfl (QOp_makeFunc _ _ _ rfl rfl) ?_
 obtain ⟨r1, hr1, h⟩ := bindO h
 refine AOps_call [1] 10 _ _ _ _ _ _ _ _ _ _ rfl rfl rfl rfl rfl rfl rfl Try.call191 rfl (nodupB_sound _ rfl) rfl rfl rfl (impl_Colouring_cliques_on_greatest_c1_ac k p0 p1 ([]) ([] : List Int) _ hr1) ?_
 rintro _ _ ⟨rfl, rfl⟩
 refine ⟨(allc (fun _ _ => trivial) (fun _ h => nomatch h)), (allc (trivial) (fun _ h => nomatch h)), AOps_as 10 (v' := bV r1.1) (H' := [.gone, .box [.sl none (intsD r1.2)]]) rfl rfl ?_⟩
 refine AOps_nil ?_
 refine ACode_seq (ACode_region ?_)
 refine AOps_q 11 _ rfl rfl rfl (QOp_load_ptr _ _ _ _ _ _ rfl Try.isAgg24 rfl rfl rfl) ?_
 refine AOps_q 4 _ rfl rfl rfl (QOp_assign _ _ rfl rfl) ?_
 refine AOps_nil ?_
 refine ACode_ret ?_
 cases h
 exact ⟨_, _, fun r a w h => ⟨r, h⟩, _, _, [], _, (.cons (ResV_tmp _ _ rfl) .nil), rfl, rfl, rfl, rfl, rfl⟩

-- loop.example/g01362/impl.GreatestClique
def impl_GreatestClique (k : Nat) (p0 : Col) (p1 : Int) : Option (List Int × Int) :=
 (impl_Colouring_code k p0 (some (impl_GreatestClique_c1 p0 p1))).bind fun r1 => (if !decide (r1 = 0) then some ([], r1) else (impl_Colouring_greatest k p0 p1).bind fun r3 => some (r3, 0))
set_option maxRecDepth 100000 in
theorem impl_GreatestClique_ac (k : Nat) (p0 : Col) (p1 : Int) (r : List Int × Int) (h : impl_GreatestClique k p0 p1 = some r) : AC Try.prog 32 [.d (.agg (colD p0)), iV p1] [] (fun res H' => res = [.d (.sl none (intsD r.1)), iV r.2] ∧ H' = []) := by
 refine AC_of_body true Try.func32 rfl Try.ntmps32 (rvs := [.tmp 4, .tmp 5]) rfl rfl (fun G hG => ?_)
 have hm : G.H.length = 0 := by rw [hG]; rfl
 have hz : zeroG G.H = true := by rw [hG]; rfl
 unfold impl_GreatestClique at h
 refine ACode_seq (ACode_region ?_)
 refine AOps_boxI 2 _ _ (.agg (colD p0)) (colD p0) rfl (colD_one _) rfl rfl rfl rfl rfl ?_
 refine AOps_boxI 3 _ _ (iD p1) _ rfl (fun c hc => by cases hc with | head => rfl | tail _ h => cases h) rfl rfl rfl rfl rfl ?_
 refine AOps_q 4 _ rfl rfl rfl (QOp_assign _ _ rfl rfl) ?_
 refine AOps_q 5 _ rfl rfl rfl (QOp_assign _ _ rfl rfl) ?_
 refine AOps_nil ?_
 refine ACode_seq ?_
 refine ACode_seq (ACode_region ?_)
 refine AOps_q 7 _ rfl rfl rfl (QOp_makeFuncD _ _ _ _ rfl rfl rfl) ?_
 obtain ⟨r1, hr1, h⟩ := bindO h
 refine AOps_call [] 8 _ _ _ _ _ _ _ _ _ _ rfl rfl rfl rfl rfl rfl rfl Try.call83 rfl (nodupB_sound _ rfl) rfl rfl rfl (impl_Colouring_code_ac k p0 (some (impl_GreatestClique_c1 p0 p1)) 115 ([.pv (colD p0) 0, .pv ([iD p1]) 0]) Try.call115 (fun r h => by cases h; exact impl_GreatestClique_c1_ac p0 p1) _ hr1) ?_
 rintro _ _ ⟨rfl, rfl⟩
 refine ⟨(fun _ h => nomatch h), (allc (trivial) (fun _ h => nomatch h)), AOps_as 8 (v' := iV r1) (H' := []) rfl rfl ?_⟩
 refine AOps_q 6 _ rfl rfl rfl (QOp_assign _ _ rfl rfl) ?_
 refine AOps_nil ?_
 refine ACode_seq (ACode_region ?_)
 refine AOps_q 9 _ rfl rfl rfl (QOp_move _ _ rfl rfl) ?_
 refine AOps_q 10 _ rfl rfl rfl (QOp_neq _ _ _ _ _ _ _ rfl rfl rfl) ?_
 refine AOps_nil ?_
 refine ACode_cond _ rfl (fun hb2 => ?_) (fun hb2 => ?_)
 ·have h := iteT hb2 h
  refine ACode_seq (ACode_region ?_)
  refine AOps_q 11 _ rfl rfl rfl (QOp_move _ _ rfl rfl) ?_
  refine AOps_q 4 _ rfl rfl rfl (QOp_assign _ _ rfl rfl) ?_
  refine AOps_q 5 _ rfl rfl rfl (QOp_assign _ _ rfl rfl) ?_
  refine AOps_nil ?_
  refine ACode_ret ?_
  cases h
  exact ⟨_, _, fun r a w h => ⟨r, h⟩, _, _, [], _, (.cons (ResV_tmp _ _ rfl) (.cons (ResV_tmp _ _ rfl) .nil)), rfl, rfl, rfl, rfl, rfl⟩
 ·have h := iteF hb2 h
  refine ACode_skip ?_
  refine ACode_seq (ACode_region ?_)
  refine AOps_q 12 _ rfl rfl rfl (QOp_load_pv _ _ _ _ _ rfl Try.isAgg2 rfl rfl) ?_
  obtain ⟨r3, hr3, h⟩ := bindO h
  refine AOps_call [] 13 _ _ _ _ _ _ _ _ _ _ rfl rfl rfl rfl rfl rfl rfl Try.call116 rfl (nodupB_sound _ rfl) rfl rfl rfl (impl_Colouring_greatest_ac k p0 p1 _ hr3) ?_
  rintro _ _ ⟨rfl, rfl⟩
  refine ⟨(fun _ h => nomatch h), (allc (trivial) (fun _ h => nomatch h)), AOps_as 13 (v' := .d (.sl none (intsD r3))) (H' := []) rfl rfl ?_⟩
  refine AOps_q 4 _ rfl rfl rfl (QOp_assign _ _ rfl rfl) ?_
  refine AOps_q 5 _ rfl rfl rfl (QOp_assign _ _ rfl rfl) ?_
  refine AOps_nil ?_
  refine ACode_ret ?_
  cases h
  exact ⟨_, _, fun r a w h => ⟨r, h⟩, _, _, [], _, (.cons (ResV_tmp _ _ rfl) (.cons (ResV_tmp _ _ rfl) .nil)), rfl, rfl, rfl, rfl, rfl⟩

-- loop.example/g01362/spec.l02Greatest
def spec_l02Greatest_l0 (k : Nat) (p0 : Col) (p1 : Int) : Nat → (List Int) → Option (List Int)
 | 0, _ => none
 | k0 + 1, x1 => (spec_l02List k p0 p1 (w64 ((x1.length : Int) + 1)) 1).bind fun r2 => (if decide ((r2.length : Int) = 0) then some x1 else (if 0 ≤ (0 : Int) ∧ (0 : Int) < (r2.length : Int) then spec_l02Greatest_l0 k p0 p1 k0 (r2.getD (0 : Int).toNat []) else none))
def spec_l02Greatest (k : Nat) (p0 : Col) (p1 : Int) : Option (List Int) :=
 (spec_l02Greatest_l0 k p0 p1 k ([0]) : Option (List Int)).bind fun s5 => some s5
set_option maxRecDepth 100000 in
theorem spec_l02Greatest_ac (k : Nat) (p0 : Col) (p1 : Int) (r : List Int) (h : spec_l02Greatest k p0 p1 = some r) : AC Try.prog 117 [.d (.agg (colD p0)), iV p1] [] (fun res H' => res = [.d (.sl none (intsD r))] ∧ H' = []) := by
 refine AC_of_body true Try.func117 rfl Try.ntmps117 (rvs := [.tmp 4]) rfl rfl (fun G hG => ?_)
 have hm : G.H.length = 0 := by rw [hG]; rfl
 have hz : zeroG G.H = true := by rw [hG]; rfl
 unfold spec_l02Greatest at h
 refine ACode_seq (ACode_region ?_)
 refine AOps_boxI 2 _ _ (.agg (colD p0)) (colD p0) rfl (colD_one _) rfl rfl rfl rfl rfl ?_
 refine AOps_q 4 _ rfl rfl rfl (QOp_assign _ _ rfl rfl) ?_
 refine AOps_nil ?_
 refine ACode_seq (ACode_region ?_)
 refine AOps_buildSlice 7 _ _ _ [_] (intsD ([0])) _ rfl rfl rfl rfl rfl (by decide) Try.underlying24 Try.sizeOf2 (zero_of Try.typeInfo2 rfl) rfl rfl (intsD_one _) ?_
 refine AOps_q 5 _ rfl rfl rfl (QOp_assign _ _ rfl rfl) ?_
 refine AOps_nil ?_
 obtain ⟨s5, hss5, hks5⟩ := bindO h
 clear h
 refine ACode_seqJ (fun E' H' => Weak 21 G E' H' [(5, .d (.sl none (intsD s5)))] []) ?_ ?_
 ·have h := hss5
  clear hss5
  refine ACode_block ?_
  refine ACode_loopW (fun k0 E H => ∃ (x1 : List Int), E = [(1, iV p1), (2, .d (.pv (colD p0) 0)), (5, .d (.sl none (intsD x1)))] ∧ H = [] ∧ spec_l02Greatest_l0 k p0 p1 k0 x1 = some s5) k _ _ (Weak_trans (Weak_frz [5, 7] [] 0 0 _ (allc (rfl) (allc (rfl) (fun _ h => nomatch h))) (fun _ h => nomatch h) rfl) (Weak_keep 0 hm [1, 2, 5] [] _ _ rfl rfl rfl)) ⟨_, rfl, rfl, h⟩ ?_
  clear h
  rintro k0 E H ⟨x1, rfl, rfl, h⟩
  cases k0 with
  | zero => cases (show (none : Option (List Int)) = some _ from h)
  | succ k0 =>
   rw [spec_l02Greatest_l0] at h
   refine ACode_block ?_
   refine ACode_seq (ACode_region ?_)
   refine AOps_q 8 _ rfl rfl rfl (QOp_loadN_pv _ _ _ _ _ _ rfl Try.isAgg29 Try.sizeOf29 rfl (colD_all _) (colD_length _)) ?_
   refine AOps_q 9 _ rfl rfl rfl (QOp_move _ _ rfl rfl) ?_
   refine AOps_q 10 _ rfl rfl rfl (QOp_move _ _ rfl rfl) ?_
   refine AOps_q 11 _ rfl rfl rfl (QOp_len_sl _ _ _ _ _ _ _ (intsD_length _) rfl rfl rfl rfl Try.underlying24 rfl) ?_
   refine AOps_q 12 _ rfl rfl rfl (QOp_add _ _ _ _ _ _ _ rfl rfl rfl) ?_
   obtain ⟨r2, hr2, h⟩ := bindO h
   refine AOps_call [] 13 _ _ _ _ _ _ _ _ _ _ rfl rfl rfl rfl rfl rfl rfl Try.call108 rfl (nodupB_sound _ rfl) rfl rfl rfl (spec_l02List_ac k p0 p1 (w64 ((x1.length : Int) + 1)) 1 _ hr2) ?_
   rintro _ _ ⟨rfl, rfl⟩
   refine ⟨(allc (fun _ _ => trivial) (fun _ h => nomatch h)), (allc (trivial) (fun _ h => nomatch h)), AOps_as 13 (v' := .vec 0 0) (H' := [.vec 0 (rowsD r2)]) rfl rfl ?_⟩
   refine AOps_q 6 _ rfl rfl rfl (QOp_assign _ _ rfl rfl) ?_
   refine AOps_nil ?_
   refine ACode_seq ?_
   refine ACode_seq (ACode_region ?_)
   refine AOps_q 14 _ rfl rfl rfl (QOp_move _ _ rfl rfl) ?_
   refine AOps_q 15 _ rfl rfl rfl (QOp_len_vec _ _ _ _ _ _ _ _ (rowsD_length _) rfl rfl rfl rfl Try.underlying45 rfl rfl) ?_
   refine AOps_q 16 _ rfl rfl rfl (QOp_eql _ _ _ _ _ _ _ rfl rfl rfl) ?_
   refine AOps_nil ?_
   refine ACode_cond _ rfl (fun hb3 => ?_) (fun hb3 => ?_)
   ·have h := iteT hb3 h
    refine ACode_exit ?_
    cases h
    exact Weak_keep 0 hm [5] [] _ _ rfl rfl rfl
   ·have h := iteF hb3 h
    refine ACode_skip ?_
    refine (ACode_region ?_)
    refine AOps_q 17 _ rfl rfl rfl (QOp_move _ _ rfl rfl) ?_
    obtain ⟨hc4, h⟩ := guardO h
    refine AOps_q 18 _ rfl rfl rfl (QOp_indexAddr_vec _ _ _ _ _ _ _ _ _ rfl Try.underlying45 Try.sizeOf24 hc4.1 (by rw [rowsD_length]; exact hc4.2) rfl rfl rfl) ?_
    refine AOps_q 19 _ rfl rfl rfl (QOp_load_eptr _ _ _ _ _ _ _ rfl Try.isAgg24 rfl rfl (rowsD_get _ _ [] (by omega))) ?_
    refine AOps_q 5 _ rfl rfl rfl (QOp_assign _ _ rfl rfl) ?_
    refine AOps_nil ?_
    exact ⟨k0, _, _, Nat.lt_succ_self _, Weak_keep 0 hm [1, 2, 5] [] _ _ rfl rfl rfl, _, rfl, rfl, h⟩
 intro E' H' hw
 refine ACode_weak hw ?_
 have h := hks5
 refine ACode_seq (ACode_region ?_)
 refine AOps_q 20 _ rfl rfl rfl (QOp_move _ _ rfl rfl) ?_
 refine AOps_q 4 _ rfl rfl rfl (QOp_assign _ _ rfl rfl) ?_
 refine AOps_nil ?_
 refine ACode_ret ?_
 cases h
 exact ⟨_, _, fun r a w h => ⟨r, h⟩, _, _, [], _, (.cons (ResV_tmp _ _ rfl) .nil), rfl, rfl, rfl, rfl, rfl⟩

-- loop.example/g01362/spec.GreatestClique
def spec_GreatestClique (k : Nat) (p0 : Col) (p1 : Int) : Option (List Int × Int) :=
 (spec_l01Given k p0 p1 ([])).bind fun r1 => (if !decide (r1 = 0) then some ([], r1) else (spec_l02Greatest k p0 p1).bind fun r3 => some (r3, 0))
set_option maxRecDepth 100000 in
theorem spec_GreatestClique_ac (k : Nat) (p0 : Col) (p1 : Int) (r : List Int × Int) (h : spec_GreatestClique k p0 p1 = some r) : AC Try.prog 33 [.d (.agg (colD p0)), iV p1] [] (fun res H' => res = [.d (.sl none (intsD r.1)), iV r.2] ∧ H' = []) := by
 refine AC_of_body true Try.func33 rfl Try.ntmps33 (rvs := [.tmp 4, .tmp 5]) rfl rfl (fun G hG => ?_)
 have hm : G.H.length = 0 := by rw [hG]; rfl
 have hz : zeroG G.H = true := by rw [hG]; rfl
 unfold spec_GreatestClique at h
 refine ACode_seq (ACode_region ?_)
 refine AOps_boxI 2 _ _ (.agg (colD p0)) (colD p0) rfl (colD_one _) rfl rfl rfl rfl rfl ?_
 refine AOps_q 4 _ rfl rfl rfl (QOp_assign _ _ rfl rfl) ?_
 refine AOps_q 5 _ rfl rfl rfl (QOp_assign _ _ rfl rfl) ?_
 refine AOps_nil ?_
 refine ACode_seq ?_
 refine ACode_seq (ACode_region ?_)
 refine AOps_q 7 _ rfl rfl rfl (QOp_loadN_pv _ _ _ _ _ _ rfl Try.isAgg29 Try.sizeOf29 rfl (colD_all _) (colD_length _)) ?_
 refine AOps_q 8 _ rfl rfl rfl (QOp_move _ _ rfl rfl) ?_
 obtain ⟨r1, hr1, h⟩ := bindO h
 refine AOps_call [] 9 _ _ _ _ _ _ _ _ _ _ rfl rfl rfl rfl rfl rfl rfl Try.call107 rfl (nodupB_sound _ rfl) rfl rfl rfl (spec_l01Given_ac k p0 p1 ([]) _ hr1) ?_
 rintro _ _ ⟨rfl, rfl⟩
 refine ⟨(fun _ h => nomatch h), (allc (trivial) (fun _ h => nomatch h)), AOps_as 9 (v' := iV r1) (H' := []) rfl rfl ?_⟩
 refine AOps_q 6 _ rfl rfl rfl (QOp_assign _ _ rfl rfl) ?_
 refine AOps_nil ?_
 refine ACode_seq (ACode_region ?_)
 refine AOps_q 10 _ rfl rfl rfl (QOp_move _ _ rfl rfl) ?_
 refine AOps_q 11 _ rfl rfl rfl (QOp_neq _ _ _ _ _ _ _ rfl rfl rfl) ?_
 refine AOps_nil ?_
 refine ACode_cond _ rfl (fun hb2 => ?_) (fun hb2 => ?_)
 ·have h := iteT hb2 h
  refine ACode_seq (ACode_region ?_)
  refine AOps_q 12 _ rfl rfl rfl (QOp_move _ _ rfl rfl) ?_
  refine AOps_q 4 _ rfl rfl rfl (QOp_assign _ _ rfl rfl) ?_
  refine AOps_q 5 _ rfl rfl rfl (QOp_assign _ _ rfl rfl) ?_
  refine AOps_nil ?_
  refine ACode_ret ?_
  cases h
  exact ⟨_, _, fun r a w h => ⟨r, h⟩, _, _, [], _, (.cons (ResV_tmp _ _ rfl) (.cons (ResV_tmp _ _ rfl) .nil)), rfl, rfl, rfl, rfl, rfl⟩
 ·have h := iteF hb2 h
  refine ACode_skip ?_
  refine ACode_seq (ACode_region ?_)
  refine AOps_q 13 _ rfl rfl rfl (QOp_loadN_pv _ _ _ _ _ _ rfl Try.isAgg29 Try.sizeOf29 rfl (colD_all _) (colD_length _)) ?_
  refine AOps_q 14 _ rfl rfl rfl (QOp_move _ _ rfl rfl) ?_
  obtain ⟨r3, hr3, h⟩ := bindO h
  refine AOps_call [] 15 _ _ _ _ _ _ _ _ _ _ rfl rfl rfl rfl rfl rfl rfl Try.call117 rfl (nodupB_sound _ rfl) rfl rfl rfl (spec_l02Greatest_ac k p0 p1 _ hr3) ?_
  rintro _ _ ⟨rfl, rfl⟩
  refine ⟨(fun _ h => nomatch h), (allc (trivial) (fun _ h => nomatch h)), AOps_as 15 (v' := .d (.sl none (intsD r3))) (H' := []) rfl rfl ?_⟩
  refine AOps_q 4 _ rfl rfl rfl (QOp_assign _ _ rfl rfl) ?_
  refine AOps_q 5 _ rfl rfl rfl (QOp_assign _ _ rfl rfl) ?_
  refine AOps_nil ?_
  refine ACode_ret ?_
  cases h
  exact ⟨_, _, fun r a w h => ⟨r, h⟩, _, _, [], _, (.cons (ResV_tmp _ _ rfl) (.cons (ResV_tmp _ _ rfl) .nil)), rfl, rfl, rfl, rfl, rfl⟩

-- loop.example/g01362/spec.l01DrawSet
def spec_l01DrawSet_l0 (p1 : Int) (r1 : Int × Src) : Nat → Int → Src → (List Int) → Option (Src × List Int)
 | 0, _, _, _ => none
 | k0 + 1, x2, x3, x4 => (if decide (x2 < p1) then ((spec_l01Next x3 4).bind fun r6 => (if decide (r6.1 < r1.1) then (if x4.length + ([x2]).length ≤ 1099511627776 then some (r6.2, (x4 ++ ([x2]))) else none) else some (r6.2, x4)) : Option (Src × List Int)).bind fun s9 => spec_l01DrawSet_l0 p1 r1 k0 (w64 (x2 + 1)) s9.1 s9.2 else some (x3, x4))
def spec_l01DrawSet (k : Nat) (p0 : Src) (p1 : Int) : Option (List Int × Src) :=
 (spec_l01Pick p0 ([1, 2, 3])).bind fun r1 => (spec_l01DrawSet_l0 p1 r1 k 0 r1.2 ([] : List Int) : Option (Src × List Int)).bind fun s10 => ((spec_l01Next s10.1 24).bind fun r11 => (if decide (r11.1 = 0) then (spec_l01Pick r11.2 ([0, (-1), p1])).bind fun r13 => (if s10.2.length + ([r13.1]).length ≤ 1099511627776 then some (r13.2, (s10.2 ++ ([r13.1]))) else none) else some (r11.2, s10.2)) : Option (Src × List Int)).bind fun s15 => some (s15.2, s15.1)
set_option maxRecDepth 100000 in
theorem spec_l01DrawSet_ac (k : Nat) (p0 : Src) (p1 : Int) (r : List Int × Src) (h : spec_l01DrawSet k p0 p1 = some r) : AC Try.prog 118 [.ptr 0 0, iV p1] [.box (srcD p0)] (fun res H' => res = [.vec 1 0] ∧ H' = [.box (srcD r.2), .vec 0 (intsD r.1)]) := by
 refine AC_of_body true Try.func118 rfl Try.ntmps118 (rvs := [.tmp 4]) rfl rfl (fun G hG => ?_)
 have hm : G.H.length = 1 := by rw [hG]; rfl
 have hz : zeroG G.H = true := by rw [hG]; rfl
 unfold spec_l01DrawSet at h
 refine ACode_seq (ACode_region ?_)
 refine AOps_q 4 _ rfl rfl rfl (QOp_assign _ _ rfl rfl) ?_
 refine AOps_nil ?_
 refine ACode_seq (ACode_region ?_)
 refine AOps_buildSlice 8 _ _ _ [] (intsD ([] : List Int)) _ rfl rfl rfl rfl rfl (by decide) Try.underlying24 Try.sizeOf2 (zero_of Try.typeInfo2 rfl) rfl rfl (intsD_one _) ?_
 refine AOps_q 9 _ rfl rfl rfl (QOp_move _ _ rfl rfl) ?_
 refine AOps_buildSlice 10 _ _ _ [_, _, _] (intsD ([1, 2, 3])) _ rfl rfl rfl rfl rfl (by decide) Try.underlying24 Try.sizeOf2 (zero_of Try.typeInfo2 rfl) rfl rfl (intsD_one _) ?_
 refine AOps_freezeL [10] 2 0 _ (allc (rfl) (fun _ h => nomatch h)) rfl ?_
 obtain ⟨r1, hr1, h⟩ := bindO h
 refine AOps_call [0] 11 _ _ _ _ _ _ _ _ _ _ rfl rfl rfl rfl rfl rfl rfl Try.call125 rfl (nodupB_sound _ rfl) rfl rfl rfl (spec_l01Pick_ac p0 ([1, 2, 3]) _ hr1) ?_
 rintro _ _ ⟨rfl, rfl⟩
 refine ⟨(allc (fun _ _ => trivial) (fun _ h => nomatch h)), (allc (trivial) (fun _ h => nomatch h)), AOps_as 11 (v' := iV r1.1) (H' := [.box (srcD r1.2), .vec 0 (intsD ([] : List Int)), .gone]) rfl rfl ?_⟩
 refine AOps_q 5 _ rfl rfl rfl (QOp_assign _ _ rfl rfl) ?_
 refine AOps_q 6 _ rfl rfl rfl (QOp_assign _ _ rfl rfl) ?_
 refine AOps_nil ?_
 obtain ⟨s10, hss10, hks10⟩ := bindO h
 clear h
 refine ACode_seqJ (fun E' H' => Weak 36 G E' H' [(0, .ptr 0 0), (1, iV p1), (5, .vec 1 0)] [.box (srcD s10.1), .vec 0 (intsD s10.2)]) ?_ ?_
 ·have h := hss10
  clear hss10
  refine ACode_seq (ACode_region ?_)
  refine AOps_q 7 _ rfl rfl rfl (QOp_assign _ _ rfl rfl) ?_
  refine AOps_nil ?_
  refine ACode_block ?_
  refine ACode_loopW (fun k0 E H => ∃ (x2 : Int) (x3 : Src) (x4 : List Int), E = [(0, .ptr 0 0), (1, iV p1), (5, .vec 1 0), (6, iV r1.1), (7, iV x2)] ∧ H = [.box (srcD x3), .vec 0 (intsD x4)] ∧ spec_l01DrawSet_l0 p1 r1 k0 x2 x3 x4 = some s10) k _ _ (Weak_keep 1 hm [0, 1, 5, 6, 7] [1] _ _ rfl rfl rfl) ⟨_, _, _, rfl, rfl, h⟩ ?_
  clear h
  rintro k0 E H ⟨x2, x3, x4, rfl, rfl, h⟩
  cases k0 with
  | zero => cases (show (none : Option (Src × List Int)) = some _ from h)
  | succ k0 =>
   rw [spec_l01DrawSet_l0] at h
   refine ACode_seq ?_
   refine ACode_seq (ACode_region ?_)
   refine AOps_q 12 _ rfl rfl rfl (QOp_move _ _ rfl rfl) ?_
   refine AOps_q 13 _ rfl rfl rfl (QOp_move _ _ rfl rfl) ?_
   refine AOps_q 14 _ rfl rfl rfl (QOp_lss _ _ _ _ _ _ _ rfl rfl rfl) ?_
   refine AOps_nil ?_
   refine ACode_cond _ rfl (fun hb5 => ?_) (fun hb5 => ?_)
   ·have h := iteT hb5 h
    refine ACode_skip ?_
    obtain ⟨s9, hss9, hks9⟩ := bindO h
    clear h
    refine ACode_seqJ (fun E' H' => Weak 36 G E' H' [(0, .ptr 0 0), (1, iV p1), (5, .vec 1 0), (6, iV r1.1), (7, iV x2)] [.box (srcD s9.1), .vec 0 (intsD s9.2)]) ?_ ?_
    ·have h := hss9
     clear hss9
     refine ACode_block ?_
     refine ACode_seq (ACode_region ?_)
     refine AOps_q 17 _ rfl rfl rfl (QOp_move _ _ rfl rfl) ?_
     obtain ⟨r6, hr6, h⟩ := bindO h
     refine AOps_call [0] 18 _ _ _ _ _ _ _ _ _ _ rfl rfl rfl rfl rfl rfl rfl Try.call77 rfl (nodupB_sound _ rfl) rfl rfl rfl (spec_l01Next_ac x3 4 _ hr6) ?_
     rintro _ _ ⟨rfl, rfl⟩
     refine ⟨(allc (fun _ _ => trivial) (fun _ h => nomatch h)), (allc (trivial) (fun _ h => nomatch h)), AOps_as 18 (v' := iV r6.1) (H' := [.box (srcD r6.2), .vec 0 (intsD x4)]) rfl rfl ?_⟩
     refine AOps_q 19 _ rfl rfl rfl (QOp_move _ _ rfl rfl) ?_
     refine AOps_q 20 _ rfl rfl rfl (QOp_lss _ _ _ _ _ _ _ rfl rfl rfl) ?_
     refine AOps_nil ?_
     refine ACode_cond _ rfl (fun hb7 => ?_) (fun hb7 => ?_)
     ·have h := iteT hb7 h
      refine (ACode_region ?_)
      refine AOps_q 21 _ rfl rfl rfl (QOp_move _ _ rfl rfl) ?_
      refine AOps_q 22 _ rfl rfl rfl (QOp_move _ _ rfl rfl) ?_
      refine AOps_buildSlice 23 _ _ _ [_] (intsD ([x2])) _ rfl rfl rfl rfl rfl (by decide) Try.underlying24 Try.sizeOf2 (zero_of Try.typeInfo2 rfl) rfl rfl (intsD_one _) ?_
      obtain ⟨hc8, h⟩ := guardO h
      refine AOps_append 24 _ _ _ _ _ _ _ _ _ _ _ _ rfl rfl rfl rfl rfl rfl rfl Try.underlying24 Try.type2 rfl rfl rfl (by decide) rfl rfl rfl rfl (intsD_one _) (by rw [intsD_length, intsD_length]; exact hc8) ?_
      rw [intsD_app]
      refine AOps_q 5 _ rfl rfl rfl (QOp_assign _ _ rfl rfl) ?_
      refine AOps_nil ?_
      cases h
      exact Weak_trans (Weak_keep 1 hm [0, 1, 5, 6, 7] [1] _ _ rfl rfl rfl) (Weak_reset 1 hm hz [0, 1, 5, 6, 7] _ _ rfl rfl)
     ·have h := iteF hb7 h
      refine ACode_skip ?_
      cases h
      exact Weak_keep 1 hm [0, 1, 5, 6, 7] [1] _ _ rfl rfl rfl
    intro E' H' hw
    refine ACode_weak hw ?_
    have h := hks9
    refine (ACode_region ?_)
    refine AOps_q 15 _ rfl rfl rfl (QOp_move _ _ rfl rfl) ?_
    refine AOps_q 16 _ rfl rfl rfl (QOp_add _ _ _ _ _ _ _ rfl rfl rfl) ?_
    refine AOps_q 7 _ rfl rfl rfl (QOp_assign _ _ rfl rfl) ?_
    refine AOps_nil ?_
    exact ⟨k0, _, _, Nat.lt_succ_self _, Weak_keep 1 hm [0, 1, 5, 6, 7] [1] _ _ rfl rfl rfl, _, _, _, rfl, rfl, h⟩
   ·have h := iteF hb5 h
    refine ACode_exit ?_
    cases h
    exact Weak_keep 1 hm [0, 1, 5] [1] _ _ rfl rfl rfl
 intro E' H' hw
 refine ACode_weak hw ?_
 have h := hks10
 obtain ⟨s15, hss15, hks15⟩ := bindO h
 clear h
 refine ACode_seqJ (fun E' H' => Weak 36 G E' H' [(5, .vec 1 0)] [.box (srcD s15.1), .vec 0 (intsD s15.2)]) ?_ ?_
 ·have h := hss15
  clear hss15
  refine ACode_seq (ACode_region ?_)
  refine AOps_q 25 _ rfl rfl rfl (QOp_move _ _ rfl rfl) ?_
  obtain ⟨r11, hr11, h⟩ := bindO h
  refine AOps_call [0] 26 _ _ _ _ _ _ _ _ _ _ rfl rfl rfl rfl rfl rfl rfl Try.call77 rfl (nodupB_sound _ rfl) rfl rfl rfl (spec_l01Next_ac s10.1 24 _ hr11) ?_
  rintro _ _ ⟨rfl, rfl⟩
  refine ⟨(allc (fun _ _ => trivial) (fun _ h => nomatch h)), (allc (trivial) (fun _ h => nomatch h)), AOps_as 26 (v' := iV r11.1) (H' := [.box (srcD r11.2), .vec 0 (intsD s10.2)]) rfl rfl ?_⟩
  refine AOps_q 27 _ rfl rfl rfl (QOp_eql _ _ _ _ _ _ _ rfl rfl rfl) ?_
  refine AOps_nil ?_
  refine ACode_cond _ rfl (fun hb12 => ?_) (fun hb12 => ?_)
  ·have h := iteT hb12 h
   refine (ACode_region ?_)
   refine AOps_q 28 _ rfl rfl rfl (QOp_move _ _ rfl rfl) ?_
   refine AOps_q 29 _ rfl rfl rfl (QOp_move _ _ rfl rfl) ?_
   refine AOps_q 30 _ rfl rfl rfl (QOp_move _ _ rfl rfl) ?_
   refine AOps_buildSlice 31 _ _ _ [_, _, _] (intsD ([0, (-1), p1])) _ rfl rfl rfl rfl rfl (by decide) Try.underlying24 Try.sizeOf2 (zero_of Try.typeInfo2 rfl) rfl rfl (intsD_one _) ?_
   refine AOps_freezeL [31] 2 0 _ (allc (rfl) (fun _ h => nomatch h)) rfl ?_
   obtain ⟨r13, hr13, h⟩ := bindO h
   refine AOps_call [0] 32 _ _ _ _ _ _ _ _ _ _ rfl rfl rfl rfl rfl rfl rfl Try.call125 rfl (nodupB_sound _ rfl) rfl rfl rfl (spec_l01Pick_ac r11.2 ([0, (-1), p1]) _ hr13) ?_
   rintro _ _ ⟨rfl, rfl⟩
   refine ⟨(allc (fun _ _ => trivial) (fun _ h => nomatch h)), (allc (trivial) (fun _ h => nomatch h)), AOps_as 32 (v' := iV r13.1) (H' := [.box (srcD r13.2), .vec 0 (intsD s10.2), .gone]) rfl rfl ?_⟩
   refine AOps_buildSlice 33 _ _ _ [_] (intsD ([r13.1])) _ rfl rfl rfl rfl rfl (by decide) Try.underlying24 Try.sizeOf2 (zero_of Try.typeInfo2 rfl) rfl rfl (intsD_one _) ?_
   obtain ⟨hc14, h⟩ := guardO h
   refine AOps_append 34 _ _ _ _ _ _ _ _ _ _ _ _ rfl rfl rfl rfl rfl rfl rfl Try.underlying24 Try.type2 rfl rfl rfl (by decide) rfl rfl rfl rfl (intsD_one _) (by rw [intsD_length, intsD_length]; exact hc14) ?_
   rw [intsD_app]
   refine AOps_q 5 _ rfl rfl rfl (QOp_assign _ _ rfl rfl) ?_
   refine AOps_nil ?_
   cases h
   exact Weak_trans (Weak_keep 1 hm [5] [1] _ _ rfl rfl rfl) (Weak_reset 1 hm hz [5] _ _ rfl rfl)
  ·have h := iteF hb12 h
   refine ACode_skip ?_
   cases h
   exact Weak_keep 1 hm [5] [1] _ _ rfl rfl rfl
 intro E' H' hw
 refine ACode_weak hw ?_
 have h := hks15
 refine ACode_seq (ACode_region ?_)
 refine AOps_q 35 _ rfl rfl rfl (QOp_move _ _ rfl rfl) ?_
 refine AOps_q 4 _ rfl rfl rfl (QOp_assign _ _ rfl rfl) ?_
 refine AOps_nil ?_
 refine ACode_ret ?_
 cases h
 exact ⟨_, _, Weak_reset 1 hm hz [4] _ _ rfl rfl, _, _, [1], _, (.cons (ResV_tmp _ _ rfl) .nil), rfl, rfl, rfl, rfl, rfl⟩

-- loop.example/g01362/spec.DrawIsClique
def spec_DrawIsClique (k : Nat) (p0 : List UInt8) : Option (Col × Int × List Int) :=
 (spec_l01From k p0).bind fun r1 => (spec_l02With k p0).bind fun r2 => ((spec_l01Next r1 3).bind fun r3 => (spec_CliqueList k r2.1 r2.2 (w64 (1 + r3.1))).bind fun r4 => ((if decide (r4.2 = 0) then (if decide (0 < (r4.1.length : Int)) then (spec_l01Next r3.2 2).bind fun r7 => some (decide (r7.1 = 0), r7.2) else some (false, r3.2)) else some (false, r3.2)) : Option (Bool × Src)).bind fun s8 => (if s8.1 then (spec_l01Next s8.2 (r4.1.length : Int)).bind fun r10 => (if 0 ≤ r10.1 ∧ r10.1 < (r4.1.length : Int) then some (.inr (r2.1, r2.2, (r4.1.getD r10.1.toNat []))) else none) else some (.inl s8.2)) : Option (Sum (Src) (Col × Int × List Int))).bind fun os12 => (match os12 with | .inl s12 => (spec_l01DrawSet k s12 (if 17 < (if r2.1.p < 1 then 1 else r2.1.p) then 17 else (if r2.1.p < 1 then 1 else r2.1.p))).bind fun r13 => some (r2.1, r2.2, r13.1) | .inr rr => some rr)
set_option maxRecDepth 100000 in
theorem spec_DrawIsClique_ac (k : Nat) (p0 : List UInt8) (r : Col × Int × List Int) (h : spec_DrawIsClique k p0 = some r) : AC Try.prog 34 [.d (.sl none (bysD p0))] [] (fun res H' => res = [.d (.agg (colD r.1)), iV r.2.1, .d (.sl none (intsD r.2.2))] ∧ H' = []) := by
 refine AC_of_body true Try.func34 rfl Try.ntmps34 (rvs := [.cell 2 29, .tmp 3, .tmp 4]) rfl rfl (fun G hG => ?_)
 have hm : G.H.length = 0 := by rw [hG]; rfl
 have hz : zeroG G.H = true := by rw [hG]; rfl
 unfold spec_DrawIsClique at h
 refine ACode_seq (ACode_region ?_)
 refine AOps_alloc 2 _ _ (colD Col.zero) (zero_of Try.typeInfo29 rfl) (by rfl) rfl rfl rfl rfl ?_
 refine AOps_q 3 _ rfl rfl rfl (QOp_assign _ _ rfl rfl) ?_
 refine AOps_q 4 _ rfl rfl rfl (QOp_assign _ _ rfl rfl) ?_
 refine AOps_nil ?_
 refine ACode_seq (ACode_region ?_)
 refine AOps_q 10 _ rfl rfl rfl (QOp_move _ _ rfl rfl) ?_
 obtain ⟨r1, hr1, h⟩ := bindO h
 refine AOps_call [] 11 _ _ _ _ _ _ _ _ _ _ rfl rfl rfl rfl rfl rfl rfl Try.call78 rfl (nodupB_sound _ rfl) rfl rfl rfl (spec_l01From_ac k p0 _ hr1) ?_
 rintro _ _ ⟨rfl, rfl⟩
 refine ⟨(allc (fun _ _ => trivial) (fun _ h => nomatch h)), (allc (trivial) (fun _ h => nomatch h)), AOps_as 11 (v' := .ptr 1 0) (H' := [.box (colD Col.zero), .box (srcD r1)]) rfl rfl ?_⟩
 refine AOps_q 5 _ rfl rfl rfl (QOp_assign _ _ rfl rfl) ?_
 refine AOps_nil ?_
 refine ACode_seq (ACode_region ?_)
 refine AOps_q 13 _ rfl rfl rfl (QOp_move _ _ rfl rfl) ?_
 obtain ⟨r2, hr2, h⟩ := bindO h
 refine AOps_call [] 14 _ _ _ _ _ _ _ _ _ _ rfl rfl rfl rfl rfl rfl rfl Try.call114 rfl (nodupB_sound _ rfl) rfl rfl rfl (spec_l02With_ac k p0 _ hr2) ?_
 rintro _ _ ⟨rfl, rfl⟩
 refine ⟨(fun _ h => nomatch h), (allc (trivial) (allc (trivial) (fun _ h => nomatch h))), AOps_as 14 (v' := .tup [.d (.agg (colD r2.1)), iV r2.2]) (H' := [.box (colD Col.zero), .box (srcD r1)]) rfl rfl ?_⟩
 refine AOps_q 12 _ rfl rfl rfl (QOp_move _ _ rfl rfl) ?_
 refine AOps_q 15 _ rfl rfl rfl (QOp_extract _ _ _ _ rfl rfl rfl) ?_
 refine AOps_q 16 _ rfl rfl rfl (QOp_extract _ _ _ _ rfl rfl rfl) ?_
 refine AOps_alloc 6 _ _ (colD Col.zero) (zero_of Try.typeInfo29 rfl) (by rfl) rfl rfl rfl rfl ?_
 refine AOps_store _ _ _ _ _ _ (colD _) _ _ rfl rfl rfl rfl rfl rfl rfl (colD_one _) (by rw [colD_length]; exact Try.sizeOf29) (by rw [colD_length, colD_length]; decide) (colD_whole _ _) ?_
 refine AOps_q 7 _ rfl rfl rfl (QOp_assign _ _ rfl rfl) ?_
 refine AOps_nil ?_
 obtain ⟨os12, hss12, hks12⟩ := bindO h
 clear h
 refine ACode_seqJ (fun E' H' => ∃ s12 : Src, os12 = .inl s12 ∧ Weak 55 G E' H' [(2, .ptr 0 0), (5, .ptr 1 0), (6, .ptr 2 0), (7, iV r2.2)] [.box (colD Col.zero), .box (srcD s12), .box (colD r2.1)]) ?_ ?_
 ·have h := hss12
  clear hss12
  obtain ⟨r3, hr3, h⟩ := bindO h
  obtain ⟨r4, hr4, h⟩ := bindO h
  refine ACode_seq (ACode_reg [(2, .ptr 0 0), (5, .ptr 1 0), (6, .ptr 2 0), (7, iV r2.2), (8, .d (.sl none (rowsD r4.1))), (9, iV r4.2)] [.box (colD Col.zero), .box (srcD r3.2), .box (colD r2.1)] ?_ ?_)
  ·refine ACode_anyU mixed ?_
   refine AU_u 1 19 _ rfl (by kernel_rfl) rfl rfl rfl (UOp_move _ _ rfl rfl) ?_
   refine AU_u 2 20 _ rfl (by kernel_rfl) rfl rfl rfl (UOp_move _ _ rfl rfl) ?_
   refine AU_all [0, 3] (by kernel_rfl) rfl (allc ?_ (allc ?_ (fun _ h => nomatch h)))
   ·refine US_of 0 rfl rfl ?_
    refine AOps_q 18 _ rfl rfl rfl (QOp_loadN_ptr _ _ _ _ _ _ _ rfl Try.isAgg29 Try.sizeOf29 rfl rfl (colD_all _) (colD_length _)) ?_
    refine AOps_nil ?_
    refine AU_all [3] (by kernel_rfl) rfl (allc ?_ (fun _ h => nomatch h))
    ·refine US_of 3 rfl rfl ?_
     refine AOps_call [1] 21 _ _ _ _ _ _ _ _ _ _ rfl rfl rfl rfl rfl rfl rfl Try.call77 rfl (nodupB_sound _ rfl) rfl rfl rfl (spec_l01Next_ac r1 3 _ hr3) ?_
     rintro _ _ ⟨rfl, rfl⟩
     refine ⟨(allc (fun _ _ => trivial) (fun _ h => nomatch h)), (allc (trivial) (fun _ h => nomatch h)), AOps_as 21 (v' := iV r3.1) (H' := [.box (colD Col.zero), .box (srcD r3.2), .box (colD r2.1)]) rfl rfl ?_⟩
     refine AOps_nil ?_
     refine AU_u 4 22 _ rfl (by kernel_rfl) rfl rfl rfl (UOp_add _ _ _ _ _ _ _ rfl rfl rfl) ?_
     refine AU_all [5] (by kernel_rfl) rfl (allc ?_ (fun _ h => nomatch h))
     ·refine US_of 5 rfl rfl ?_
      refine AOps_call [] 23 _ _ _ _ _ _ _ _ _ _ rfl rfl rfl rfl rfl rfl rfl Try.call27 rfl (nodupB_sound _ rfl) rfl rfl rfl (spec_CliqueList_ac k r2.1 r2.2 (w64 (1 + r3.1)) _ hr4) ?_
      rintro _ _ ⟨rfl, rfl⟩
      refine ⟨(fun _ h => nomatch h), (allc (trivial) (allc (trivial) (fun _ h => nomatch h))), AOps_as 23 (v' := .tup [.d (.sl none (rowsD r4.1)), iV r4.2]) (H' := [.box (colD Col.zero), .box (srcD r3.2), .box (colD r2.1)]) rfl rfl ?_⟩
      refine AOps_nil ?_
      refine AU_u 6 17 _ rfl (by kernel_rfl) rfl rfl rfl (UOp_move _ _ rfl rfl) ?_
      refine AU_u 7 24 _ rfl (by kernel_rfl) rfl rfl rfl (UOp_extract _ _ _ _ rfl rfl rfl) ?_
      refine AU_u 8 25 _ rfl (by kernel_rfl) rfl rfl rfl (UOp_extract _ _ _ _ rfl rfl rfl) ?_
      refine AU_u 9 8 _ rfl (by kernel_rfl) rfl rfl rfl (UOp_assign _ _ rfl rfl) ?_
      refine AU_u 10 9 _ rfl (by kernel_rfl) rfl rfl rfl (UOp_assign _ _ rfl rfl) ?_
      refine AU_done (by kernel_rfl) ?_
      exact ⟨rfl, Weak_keep 0 hm [2, 5, 6, 7, 8, 9] [0, 1, 2] _ _ rfl rfl rfl⟩
   ·refine US_of 3 rfl rfl ?_
    refine AOps_call [1] 21 _ _ _ _ _ _ _ _ _ _ rfl rfl rfl rfl rfl rfl rfl Try.call77 rfl (nodupB_sound _ rfl) rfl rfl rfl (spec_l01Next_ac r1 3 _ hr3) ?_
    rintro _ _ ⟨rfl, rfl⟩
    refine ⟨(allc (fun _ _ => trivial) (fun _ h => nomatch h)), (allc (trivial) (fun _ h => nomatch h)), AOps_as 21 (v' := iV r3.1) (H' := [.box (colD Col.zero), .box (srcD r3.2), .box (colD r2.1)]) rfl rfl ?_⟩
    refine AOps_nil ?_
    refine AU_u 4 22 _ rfl (by kernel_rfl) rfl rfl rfl (UOp_add _ _ _ _ _ _ _ rfl rfl rfl) ?_
    refine AU_all [0] (by kernel_rfl) rfl (allc ?_ (fun _ h => nomatch h))
    ·refine US_of 0 rfl rfl ?_
     refine AOps_q 18 _ rfl rfl rfl (QOp_loadN_ptr _ _ _ _ _ _ _ rfl Try.isAgg29 Try.sizeOf29 rfl rfl (colD_all _) (colD_length _)) ?_
     refine AOps_nil ?_
     refine AU_all [5] (by kernel_rfl) rfl (allc ?_ (fun _ h => nomatch h))
     ·refine US_of 5 rfl rfl ?_
      refine AOps_call [] 23 _ _ _ _ _ _ _ _ _ _ rfl rfl rfl rfl rfl rfl rfl Try.call27 rfl (nodupB_sound _ rfl) rfl rfl rfl (spec_CliqueList_ac k r2.1 r2.2 (w64 (1 + r3.1)) _ hr4) ?_
      rintro _ _ ⟨rfl, rfl⟩
      refine ⟨(fun _ h => nomatch h), (allc (trivial) (allc (trivial) (fun _ h => nomatch h))), AOps_as 23 (v' := .tup [.d (.sl none (rowsD r4.1)), iV r4.2]) (H' := [.box (colD Col.zero), .box (srcD r3.2), .box (colD r2.1)]) rfl rfl ?_⟩
      refine AOps_nil ?_
      refine AU_u 6 17 _ rfl (by kernel_rfl) rfl rfl rfl (UOp_move _ _ rfl rfl) ?_
      refine AU_u 7 24 _ rfl (by kernel_rfl) rfl rfl rfl (UOp_extract _ _ _ _ rfl rfl rfl) ?_
      refine AU_u 8 25 _ rfl (by kernel_rfl) rfl rfl rfl (UOp_extract _ _ _ _ rfl rfl rfl) ?_
      refine AU_u 9 8 _ rfl (by kernel_rfl) rfl rfl rfl (UOp_assign _ _ rfl rfl) ?_
      refine AU_u 10 9 _ rfl (by kernel_rfl) rfl rfl rfl (UOp_assign _ _ rfl rfl) ?_
      refine AU_done (by kernel_rfl) ?_
      exact ⟨rfl, Weak_keep 0 hm [2, 5, 6, 7, 8, 9] [0, 1, 2] _ _ rfl rfl rfl⟩
  obtain ⟨s8, hss8, hks8⟩ := bindO h
  clear h
  refine ACode_seqJ (fun E' H' => Weak 55 G E' H' [(2, .ptr 0 0), (5, .ptr 1 0), (6, .ptr 2 0), (7, iV r2.2), (8, .d (.sl none (rowsD r4.1))), (37, bV s8.1)] [.box (colD Col.zero), .box (srcD s8.2), .box (colD r2.1)]) ?_ ?_
  ·have h := hss8
   clear hss8
   refine (ACode_region ?_)
   refine AOps_q 26 _ rfl rfl rfl (QOp_move _ _ rfl rfl) ?_
   refine AOps_q 27 _ rfl rfl rfl (QOp_eql _ _ _ _ _ _ _ rfl rfl rfl) ?_
   refine AOps_q 28 _ rfl rfl rfl (QOp_move _ _ rfl rfl) ?_
   refine AOps_case 28 _ rfl (fun hb5 => ?_) (fun hb5 => ?_)
   ·have h := iteT hb5 h
    refine AOps_q 29 _ rfl rfl rfl (QOp_move _ _ rfl rfl) ?_
    refine AOps_q 30 _ rfl rfl rfl (QOp_len_sl _ _ _ _ _ _ _ (rowsD_length _) rfl rfl rfl rfl Try.underlying45 rfl) ?_
    refine AOps_q 31 _ rfl rfl rfl (QOp_gtr _ _ _ _ _ _ _ rfl rfl rfl) ?_
    refine AOps_q 32 _ rfl rfl rfl (QOp_pick_t _ _ _ _ rfl rfl rfl) ?_
    refine AOps_q 33 _ rfl rfl rfl (QOp_move _ _ rfl rfl) ?_
    refine AOps_case 33 _ rfl (fun hb6 => ?_) (fun hb6 => ?_)
    ·have h := iteT hb6 h
     refine AOps_q 34 _ rfl rfl rfl (QOp_move _ _ rfl rfl) ?_
     obtain ⟨r7, hr7, h⟩ := bindO h
     refine AOps_call [1] 35 _ _ _ _ _ _ _ _ _ _ rfl rfl rfl rfl rfl rfl rfl Try.call77 rfl (nodupB_sound _ rfl) rfl rfl rfl (spec_l01Next_ac r3.2 2 _ hr7) ?_
     rintro _ _ ⟨rfl, rfl⟩
     refine ⟨(allc (fun _ _ => trivial) (fun _ h => nomatch h)), (allc (trivial) (fun _ h => nomatch h)), AOps_as 35 (v' := iV r7.1) (H' := [.box (colD Col.zero), .box (srcD r7.2), .box (colD r2.1)]) rfl rfl ?_⟩
     refine AOps_q 36 _ rfl rfl rfl (QOp_eql _ _ _ _ _ _ _ rfl rfl rfl) ?_
     refine AOps_q 37 _ rfl rfl rfl (QOp_pick_t _ _ _ _ rfl rfl rfl) ?_
     refine AOps_nil ?_
     cases h
     exact Weak_keep 0 hm [2, 5, 6, 7, 8, 37] [0, 1, 2] _ _ rfl rfl rfl
    ·have h := iteF hb6 h
     refine AOps_skip 34 rfl rfl rfl ?_
     refine AOps_skip 35 rfl rfl rfl ?_
     refine AOps_skip 36 rfl rfl rfl ?_
     refine AOps_q 37 _ rfl rfl rfl (QOp_pick_f _ _ _ _ rfl rfl rfl) ?_
     refine AOps_nil ?_
     cases h
     exact Weak_keep 0 hm [2, 5, 6, 7, 8, 37] [0, 1, 2] _ _ rfl rfl rfl
   ·have h := iteF hb5 h
    refine AOps_skip 29 rfl rfl rfl ?_
    refine AOps_skip 30 rfl rfl rfl ?_
    refine AOps_skip 31 rfl rfl rfl ?_
    refine AOps_q 32 _ rfl rfl rfl (QOp_pick_f _ _ _ _ rfl rfl rfl) ?_
    refine AOps_q 33 _ rfl rfl rfl (QOp_move _ _ rfl rfl) ?_
    refine AOps_skip 34 rfl rfl rfl ?_
    refine AOps_skip 35 rfl rfl rfl ?_
    refine AOps_skip 36 rfl rfl rfl ?_
    refine AOps_q 37 _ rfl rfl rfl (QOp_pick_f _ _ _ _ rfl rfl rfl) ?_
    refine AOps_nil ?_
    cases h
    exact Weak_keep 0 hm [2, 5, 6, 7, 8, 37] [0, 1, 2] _ _ rfl rfl rfl
  intro E' H' hw
  refine ACode_weak hw ?_
  have h := hks8
  refine ACode_cond _ rfl (fun hb9 => ?_) (fun hb9 => ?_)
  ·have h := iteT hb9 h
   obtain ⟨r10, hr10, h⟩ := bindO h
   obtain ⟨hc11, h⟩ := guardO h
   refine ACode_seq (ACode_reg [(2, .ptr 0 0), (3, iV r2.2), (4, .d (.sl none (intsD (r4.1.getD r10.1.toNat []))))] [.box (colD r2.1)] ?_ ?_)
   ·refine ACode_anyU mixed ?_
    refine AU_u 1 39 _ rfl (by kernel_rfl) rfl rfl rfl (UOp_move _ _ rfl rfl) ?_
    refine AU_u 2 40 _ rfl (by kernel_rfl) rfl rfl rfl (UOp_move _ _ rfl rfl) ?_
    refine AU_u 3 41 _ rfl (by kernel_rfl) rfl rfl rfl (UOp_move _ _ rfl rfl) ?_
    refine AU_u 4 42 _ rfl (by kernel_rfl) rfl rfl rfl (UOp_move _ _ rfl rfl) ?_
    refine AU_u 5 43 _ rfl (by kernel_rfl) rfl rfl rfl (UOp_len_sl _ _ _ _ _ _ _ (rowsD_length _) rfl rfl rfl rfl Try.underlying45 rfl) ?_
    refine AU_all [0, 6] (by kernel_rfl) rfl (allc ?_ (allc ?_ (fun _ h => nomatch h)))
    ·refine US_of 0 rfl rfl ?_
     refine AOps_q 38 _ rfl rfl rfl (QOp_loadN_ptr _ _ _ _ _ _ _ rfl Try.isAgg29 Try.sizeOf29 rfl rfl (colD_all _) (colD_length _)) ?_
     refine AOps_nil ?_
     refine AU_all [6] (by kernel_rfl) rfl (allc ?_ (fun _ h => nomatch h))
     ·refine US_of 6 rfl rfl ?_
      refine AOps_call [1] 44 _ _ _ _ _ _ _ _ _ _ rfl rfl rfl rfl rfl rfl rfl Try.call77 rfl (nodupB_sound _ rfl) rfl rfl rfl (spec_l01Next_ac s8.2 (r4.1.length : Int) _ hr10) ?_
      rintro _ _ ⟨rfl, rfl⟩
      refine ⟨(allc (fun _ _ => trivial) (fun _ h => nomatch h)), (allc (trivial) (fun _ h => nomatch h)), AOps_as 44 (v' := iV r10.1) (H' := [.box (colD Col.zero), .box (srcD r10.2), .box (colD r2.1)]) rfl rfl ?_⟩
      refine AOps_nil ?_
      refine AU_u 7 45 _ rfl (by kernel_rfl) rfl rfl rfl (UOp_indexAddr_sl _ _ _ _ _ _ _ _ rfl Try.underlying45 Try.sizeOf24 hc11.1 (by rw [rowsD_length]; exact hc11.2) rfl rfl) ?_
      refine AU_all [8, 9] (by kernel_rfl) rfl (allc ?_ (allc ?_ (fun _ h => nomatch h)))
      ·refine US_of 8 rfl rfl ?_
       refine AOps_q 46 _ rfl rfl rfl (QOp_load_pv _ _ _ _ _ rfl Try.isAgg24 rfl (rowsD_get _ _ [] (by omega))) ?_
       refine AOps_nil ?_
       refine AU_all [9] (by kernel_rfl) rfl (allc ?_ (fun _ h => nomatch h))
       ·refine US_of 9 rfl rfl ?_
        refine AOps_store _ _ _ _ _ _ (colD _) _ _ rfl rfl rfl rfl rfl rfl rfl (colD_one _) (by rw [colD_length]; exact Try.sizeOf29) (by rw [colD_length, colD_length]; decide) (colD_whole _ _) ?_
        refine AOps_nil ?_
        refine AU_u 10 3 _ rfl (by kernel_rfl) rfl rfl rfl (UOp_assign _ _ rfl rfl) ?_
        refine AU_u 11 4 _ rfl (by kernel_rfl) rfl rfl rfl (UOp_assign _ _ rfl rfl) ?_
        refine AU_done (by kernel_rfl) ?_
        exact ⟨rfl, Weak_keep 0 hm [2, 3, 4] [0] _ _ rfl rfl rfl⟩
      ·refine US_of 9 rfl rfl ?_
       refine AOps_store _ _ _ _ _ _ (colD _) _ _ rfl rfl rfl rfl rfl rfl rfl (colD_one _) (by rw [colD_length]; exact Try.sizeOf29) (by rw [colD_length, colD_length]; decide) (colD_whole _ _) ?_
       refine AOps_nil ?_
       refine AU_u 10 3 _ rfl (by kernel_rfl) rfl rfl rfl (UOp_assign _ _ rfl rfl) ?_
       refine AU_all [8] (by kernel_rfl) rfl (allc ?_ (fun _ h => nomatch h))
       ·refine US_of 8 rfl rfl ?_
        refine AOps_q 46 _ rfl rfl rfl (QOp_load_pv _ _ _ _ _ rfl Try.isAgg24 rfl (rowsD_get _ _ [] (by omega))) ?_
        refine AOps_nil ?_
        refine AU_u 11 4 _ rfl (by kernel_rfl) rfl rfl rfl (UOp_assign _ _ rfl rfl) ?_
        refine AU_done (by kernel_rfl) ?_
        exact ⟨rfl, Weak_keep 0 hm [2, 3, 4] [0] _ _ rfl rfl rfl⟩
    ·refine US_of 6 rfl rfl ?_
     refine AOps_call [1] 44 _ _ _ _ _ _ _ _ _ _ rfl rfl rfl rfl rfl rfl rfl Try.call77 rfl (nodupB_sound _ rfl) rfl rfl rfl (spec_l01Next_ac s8.2 (r4.1.length : Int) _ hr10) ?_
     rintro _ _ ⟨rfl, rfl⟩
     refine ⟨(allc (fun _ _ => trivial) (fun _ h => nomatch h)), (allc (trivial) (fun _ h => nomatch h)), AOps_as 44 (v' := iV r10.1) (H' := [.box (colD Col.zero), .box (srcD r10.2), .box (colD r2.1)]) rfl rfl ?_⟩
     refine AOps_nil ?_
     refine AU_u 7 45 _ rfl (by kernel_rfl) rfl rfl rfl (UOp_indexAddr_sl _ _ _ _ _ _ _ _ rfl Try.underlying45 Try.sizeOf24 hc11.1 (by rw [rowsD_length]; exact hc11.2) rfl rfl) ?_
     refine AU_all [0, 8] (by kernel_rfl) rfl (allc ?_ (allc ?_ (fun _ h => nomatch h)))
     ·refine US_of 0 rfl rfl ?_
      refine AOps_q 38 _ rfl rfl rfl (QOp_loadN_ptr _ _ _ _ _ _ _ rfl Try.isAgg29 Try.sizeOf29 rfl rfl (colD_all _) (colD_length _)) ?_
      refine AOps_nil ?_
      refine AU_all [8, 9] (by kernel_rfl) rfl (allc ?_ (allc ?_ (fun _ h => nomatch h)))
      ·refine US_of 8 rfl rfl ?_
       refine AOps_q 46 _ rfl rfl rfl (QOp_load_pv _ _ _ _ _ rfl Try.isAgg24 rfl (rowsD_get _ _ [] (by omega))) ?_
       refine AOps_nil ?_
       refine AU_all [9] (by kernel_rfl) rfl (allc ?_ (fun _ h => nomatch h))
       ·refine US_of 9 rfl rfl ?_
        refine AOps_store _ _ _ _ _ _ (colD _) _ _ rfl rfl rfl rfl rfl rfl rfl (colD_one _) (by rw [colD_length]; exact Try.sizeOf29) (by rw [colD_length, colD_length]; decide) (colD_whole _ _) ?_
        refine AOps_nil ?_
        refine AU_u 10 3 _ rfl (by kernel_rfl) rfl rfl rfl (UOp_assign _ _ rfl rfl) ?_
        refine AU_u 11 4 _ rfl (by kernel_rfl) rfl rfl rfl (UOp_assign _ _ rfl rfl) ?_
        refine AU_done (by kernel_rfl) ?_
        exact ⟨rfl, Weak_keep 0 hm [2, 3, 4] [0] _ _ rfl rfl rfl⟩
      ·refine US_of 9 rfl rfl ?_
       refine AOps_store _ _ _ _ _ _ (colD _) _ _ rfl rfl rfl rfl rfl rfl rfl (colD_one _) (by rw [colD_length]; exact Try.sizeOf29) (by rw [colD_length, colD_length]; decide) (colD_whole _ _) ?_
       refine AOps_nil ?_
       refine AU_u 10 3 _ rfl (by kernel_rfl) rfl rfl rfl (UOp_assign _ _ rfl rfl) ?_
       refine AU_all [8] (by kernel_rfl) rfl (allc ?_ (fun _ h => nomatch h))
       ·refine US_of 8 rfl rfl ?_
        refine AOps_q 46 _ rfl rfl rfl (QOp_load_pv _ _ _ _ _ rfl Try.isAgg24 rfl (rowsD_get _ _ [] (by omega))) ?_
        refine AOps_nil ?_
        refine AU_u 11 4 _ rfl (by kernel_rfl) rfl rfl rfl (UOp_assign _ _ rfl rfl) ?_
        refine AU_done (by kernel_rfl) ?_
        exact ⟨rfl, Weak_keep 0 hm [2, 3, 4] [0] _ _ rfl rfl rfl⟩
     ·refine US_of 8 rfl rfl ?_
      refine AOps_q 46 _ rfl rfl rfl (QOp_load_pv _ _ _ _ _ rfl Try.isAgg24 rfl (rowsD_get _ _ [] (by omega))) ?_
      refine AOps_nil ?_
      refine AU_all [0] (by kernel_rfl) rfl (allc ?_ (fun _ h => nomatch h))
      ·refine US_of 0 rfl rfl ?_
       refine AOps_q 38 _ rfl rfl rfl (QOp_loadN_ptr _ _ _ _ _ _ _ rfl Try.isAgg29 Try.sizeOf29 rfl rfl (colD_all _) (colD_length _)) ?_
       refine AOps_nil ?_
       refine AU_all [9] (by kernel_rfl) rfl (allc ?_ (fun _ h => nomatch h))
       ·refine US_of 9 rfl rfl ?_
        refine AOps_store _ _ _ _ _ _ (colD _) _ _ rfl rfl rfl rfl rfl rfl rfl (colD_one _) (by rw [colD_length]; exact Try.sizeOf29) (by rw [colD_length, colD_length]; decide) (colD_whole _ _) ?_
        refine AOps_nil ?_
        refine AU_u 10 3 _ rfl (by kernel_rfl) rfl rfl rfl (UOp_assign _ _ rfl rfl) ?_
        refine AU_u 11 4 _ rfl (by kernel_rfl) rfl rfl rfl (UOp_assign _ _ rfl rfl) ?_
        refine AU_done (by kernel_rfl) ?_
        exact ⟨rfl, Weak_keep 0 hm [2, 3, 4] [0] _ _ rfl rfl rfl⟩
   refine ACode_ret ?_
   cases h
   have h := hks12
   cases h
   exact ⟨_, _, fun r a w h => ⟨r, h⟩, _, _, [], _, (.cons (ResV_agg _ _ _ _ _ _ Try.isAgg29 Try.sizeOf29 rfl rfl (colD_take _) (colD_length _)) (.cons (ResV_tmp _ _ rfl) (.cons (ResV_tmp _ _ rfl) .nil))), rfl, rfl, rfl, rfl, rfl⟩
  ·have h := iteF hb9 h
   refine ACode_skip ?_
   cases h
   exact ⟨_, rfl, Weak_keep 0 hm [2, 5, 6, 7] [0, 1, 2] _ _ rfl rfl rfl⟩
 rintro E' H' ⟨s12, rfl, hw⟩
 refine ACode_weak hw ?_
 have h := hks12
 obtain ⟨r13, hr13, h⟩ := bindO h
 refine ACode_seq (ACode_reg [(2, .ptr 0 0), (3, iV r2.2), (4, .vec 1 0)] [.box (colD r2.1), .vec 0 (intsD r13.1)] ?_ ?_)
 ·refine ACode_anyU mixed ?_
  refine AU_u 1 48 _ rfl (by kernel_rfl) rfl rfl rfl (UOp_move _ _ rfl rfl) ?_
  refine AU_u 2 49 _ rfl (by kernel_rfl) rfl rfl rfl (UOp_move _ _ rfl rfl) ?_
  refine AU_u 3 50 _ rfl (by kernel_rfl) rfl rfl rfl (UOp_fieldAddr_ptr _ _ _ _ _ _ 0 _ _ rfl Try.underlying29 rfl _ Try.sizeOf2 rfl rfl rfl rfl) ?_
  refine AU_all [0, 4] (by kernel_rfl) rfl (allc ?_ (allc ?_ (fun _ h => nomatch h)))
  ·refine US_of 0 rfl rfl ?_
   refine AOps_q 47 _ rfl rfl rfl (QOp_loadN_ptr _ _ _ _ _ _ _ rfl Try.isAgg29 Try.sizeOf29 rfl rfl (colD_all _) (colD_length _)) ?_
   refine AOps_nil ?_
   refine AU_all [4] (by kernel_rfl) rfl (allc ?_ (fun _ h => nomatch h))
   ·refine US_of 4 rfl rfl ?_
    refine AOps_q 51 _ rfl rfl rfl (QOp_load_ptr _ _ _ _ _ _ rfl Try.isAgg2 rfl rfl rfl) ?_
    refine AOps_nil ?_
    refine AU_u 5 52 _ rfl (by kernel_rfl) rfl rfl rfl (UOp_max _ _ _ _ _ _ rfl rfl rfl rfl rfl) ?_
    refine AU_u 6 53 _ rfl (by kernel_rfl) rfl rfl rfl (UOp_min _ _ _ _ _ _ rfl rfl rfl rfl rfl) ?_
    refine AU_all [7] (by kernel_rfl) rfl (allc ?_ (fun _ h => nomatch h))
    ·refine US_of 7 rfl rfl ?_
     refine AOps_call [1] 54 _ _ _ _ _ _ _ _ _ _ rfl rfl rfl rfl rfl rfl rfl Try.call118 rfl (nodupB_sound _ rfl) rfl rfl rfl (spec_l01DrawSet_ac k s12 (if 17 < (if r2.1.p < 1 then 1 else r2.1.p) then 17 else (if r2.1.p < 1 then 1 else r2.1.p)) _ hr13) ?_
     rintro _ _ ⟨rfl, rfl⟩
     refine ⟨(allc (fun _ _ => trivial) (allc (fun _ _ => trivial) (fun _ h => nomatch h))), (allc (trivial) (fun _ h => nomatch h)), AOps_as 54 (v' := .vec 3 0) (H' := [.box (colD Col.zero), .box (srcD r13.2), .box (colD r2.1), .vec 0 (intsD r13.1)]) rfl rfl ?_⟩
     refine AOps_nil ?_
     refine AU_all [8] (by kernel_rfl) rfl (allc ?_ (fun _ h => nomatch h))
     ·refine US_of 8 rfl rfl ?_
      refine AOps_store _ _ _ _ _ _ (colD _) _ _ rfl rfl rfl rfl rfl rfl rfl (colD_one _) (by rw [colD_length]; exact Try.sizeOf29) (by rw [colD_length, colD_length]; decide) (colD_whole _ _) ?_
      refine AOps_nil ?_
      refine AU_u 9 3 _ rfl (by kernel_rfl) rfl rfl rfl (UOp_assign _ _ rfl rfl) ?_
      refine AU_u 10 4 _ rfl (by kernel_rfl) rfl rfl rfl (UOp_assign _ _ rfl rfl) ?_
      refine AU_done (by kernel_rfl) ?_
      exact ⟨rfl, Weak_keep 0 hm [2, 3, 4] [0, 3] _ _ rfl rfl rfl⟩
  ·refine US_of 4 rfl rfl ?_
   refine AOps_q 51 _ rfl rfl rfl (QOp_load_ptr _ _ _ _ _ _ rfl Try.isAgg2 rfl rfl rfl) ?_
   refine AOps_nil ?_
   refine AU_u 5 52 _ rfl (by kernel_rfl) rfl rfl rfl (UOp_max _ _ _ _ _ _ rfl rfl rfl rfl rfl) ?_
   refine AU_u 6 53 _ rfl (by kernel_rfl) rfl rfl rfl (UOp_min _ _ _ _ _ _ rfl rfl rfl rfl rfl) ?_
   refine AU_all [0, 7] (by kernel_rfl) rfl (allc ?_ (allc ?_ (fun _ h => nomatch h)))
   ·refine US_of 0 rfl rfl ?_
    refine AOps_q 47 _ rfl rfl rfl (QOp_loadN_ptr _ _ _ _ _ _ _ rfl Try.isAgg29 Try.sizeOf29 rfl rfl (colD_all _) (colD_length _)) ?_
    refine AOps_nil ?_
    refine AU_all [7] (by kernel_rfl) rfl (allc ?_ (fun _ h => nomatch h))
    ·refine US_of 7 rfl rfl ?_
     refine AOps_call [1] 54 _ _ _ _ _ _ _ _ _ _ rfl rfl rfl rfl rfl rfl rfl Try.call118 rfl (nodupB_sound _ rfl) rfl rfl rfl (spec_l01DrawSet_ac k s12 (if 17 < (if r2.1.p < 1 then 1 else r2.1.p) then 17 else (if r2.1.p < 1 then 1 else r2.1.p)) _ hr13) ?_
     rintro _ _ ⟨rfl, rfl⟩
     refine ⟨(allc (fun _ _ => trivial) (allc (fun _ _ => trivial) (fun _ h => nomatch h))), (allc (trivial) (fun _ h => nomatch h)), AOps_as 54 (v' := .vec 3 0) (H' := [.box (colD Col.zero), .box (srcD r13.2), .box (colD r2.1), .vec 0 (intsD r13.1)]) rfl rfl ?_⟩
     refine AOps_nil ?_
     refine AU_all [8] (by kernel_rfl) rfl (allc ?_ (fun _ h => nomatch h))
     ·refine US_of 8 rfl rfl ?_
      refine AOps_store _ _ _ _ _ _ (colD _) _ _ rfl rfl rfl rfl rfl rfl rfl (colD_one _) (by rw [colD_length]; exact Try.sizeOf29) (by rw [colD_length, colD_length]; decide) (colD_whole _ _) ?_
      refine AOps_nil ?_
      refine AU_u 9 3 _ rfl (by kernel_rfl) rfl rfl rfl (UOp_assign _ _ rfl rfl) ?_
      refine AU_u 10 4 _ rfl (by kernel_rfl) rfl rfl rfl (UOp_assign _ _ rfl rfl) ?_
      refine AU_done (by kernel_rfl) ?_
      exact ⟨rfl, Weak_keep 0 hm [2, 3, 4] [0, 3] _ _ rfl rfl rfl⟩
   ·refine US_of 7 rfl rfl ?_
    refine AOps_call [1] 54 _ _ _ _ _ _ _ _ _ _ rfl rfl rfl rfl rfl rfl rfl Try.call118 rfl (nodupB_sound _ rfl) rfl rfl rfl (spec_l01DrawSet_ac k s12 (if 17 < (if r2.1.p < 1 then 1 else r2.1.p) then 17 else (if r2.1.p < 1 then 1 else r2.1.p)) _ hr13) ?_
    rintro _ _ ⟨rfl, rfl⟩
    refine ⟨(allc (fun _ _ => trivial) (allc (fun _ _ => trivial) (fun _ h => nomatch h))), (allc (trivial) (fun _ h => nomatch h)), AOps_as 54 (v' := .vec 3 0) (H' := [.box (colD Col.zero), .box (srcD r13.2), .box (colD r2.1), .vec 0 (intsD r13.1)]) rfl rfl ?_⟩
    refine AOps_nil ?_
    refine AU_all [0] (by kernel_rfl) rfl (allc ?_ (fun _ h => nomatch h))
    ·refine US_of 0 rfl rfl ?_
     refine AOps_q 47 _ rfl rfl rfl (QOp_loadN_ptr _ _ _ _ _ _ _ rfl Try.isAgg29 Try.sizeOf29 rfl rfl (colD_all _) (colD_length _)) ?_
     refine AOps_nil ?_
     refine AU_all [8] (by kernel_rfl) rfl (allc ?_ (fun _ h => nomatch h))
     ·refine US_of 8 rfl rfl ?_
      refine AOps_store _ _ _ _ _ _ (colD _) _ _ rfl rfl rfl rfl rfl rfl rfl (colD_one _) (by rw [colD_length]; exact Try.sizeOf29) (by rw [colD_length, colD_length]; decide) (colD_whole _ _) ?_
      refine AOps_nil ?_
      refine AU_u 9 3 _ rfl (by kernel_rfl) rfl rfl rfl (UOp_assign _ _ rfl rfl) ?_
      refine AU_u 10 4 _ rfl (by kernel_rfl) rfl rfl rfl (UOp_assign _ _ rfl rfl) ?_
      refine AU_done (by kernel_rfl) ?_
      exact ⟨rfl, Weak_keep 0 hm [2, 3, 4] [0, 3] _ _ rfl rfl rfl⟩
 refine ACode_ret ?_
 cases h
 exact ⟨_, _, fun r a w h => ⟨r, h⟩, _, _, [], _, (.cons (ResV_agg _ _ _ _ _ _ Try.isAgg29 Try.sizeOf29 rfl rfl (colD_take _) (colD_length _)) (.cons (ResV_tmp _ _ rfl) (.cons (ResV_tmp _ _ rfl) .nil))), rfl, rfl, rfl, rfl, rfl⟩

-- (*loop.example/g01362/impl.Colouring).has
def impl_Colouring_has (p0 : Col) (p1 : Int) : Bool :=
 (impl_in p1 0 (w64 (p0.p - 1)))
set_option maxRecDepth 100000 in
theorem impl_Colouring_has_ac (p0 : Col) (p1 : Int) : AC Try.prog 127 [.d (.pv (colD p0) 0), iV p1] [] (fun res H' => res = [bV (impl_Colouring_has p0 p1)] ∧ H' = []) := by
 refine AC_of_body true Try.func127 rfl Try.ntmps127 (rvs := [.tmp 4]) rfl rfl (fun G hG => ?_)
 have hm : G.H.length = 0 := by rw [hG]; rfl
 have hz : zeroG G.H = true := by rw [hG]; rfl
 obtain ⟨r, h⟩ : ∃ r, impl_Colouring_has p0 p1 = r := ⟨_, rfl⟩
 rw [h]
 unfold impl_Colouring_has at h
 refine ACode_seq (ACode_region ?_)
 refine AOps_q 4 _ rfl rfl rfl (QOp_assign _ _ rfl rfl) ?_
 refine AOps_nil ?_
 refine ACode_seq (ACode_region ?_)
 refine AOps_q 5 _ rfl rfl rfl (QOp_move _ _ rfl rfl) ?_
 refine AOps_q 6 _ rfl rfl rfl (QOp_move _ _ rfl rfl) ?_
 refine AOps_q 7 _ rfl rfl rfl (QOp_nilCheck_pv _ _ _ rfl rfl) ?_
 refine AOps_q 8 _ rfl rfl rfl (QOp_fieldAddr_pv _ _ _ _ _ 0 _ _ rfl Try.underlying29 rfl _ Try.sizeOf2 rfl rfl) ?_
 refine AOps_q 9 _ rfl rfl rfl (QOp_load_pv _ _ _ _ _ rfl Try.isAgg2 rfl rfl) ?_
 refine AOps_q 10 _ rfl rfl rfl (QOp_sub _ _ _ _ _ _ _ rfl rfl rfl) ?_
 refine AOps_call [] 11 _ _ _ _ _ _ _ _ _ _ rfl rfl rfl rfl rfl rfl rfl Try.call99 rfl (nodupB_sound _ rfl) rfl rfl rfl (impl_in_ac p1 0 (w64 (p0.p - 1))) ?_
 rintro _ _ ⟨rfl, rfl⟩
 refine ⟨(fun _ h => nomatch h), (allc (trivial) (fun _ h => nomatch h)), AOps_as 11 (v' := bV (impl_in p1 0 (w64 (p0.p - 1)))) (H' := []) rfl rfl ?_⟩
 refine AOps_q 4 _ rfl rfl rfl (QOp_assign _ _ rfl rfl) ?_
 refine AOps_nil ?_
 refine ACode_ret ?_
 cases h
 exact ⟨_, _, fun r a w h => ⟨r, h⟩, _, _, [], _, (.cons (ResV_tmp _ _ rfl) .nil), rfl, rfl, rfl, rfl, rfl⟩

-- (*loop.example/g01362/impl.Colouring).isSet
def impl_Colouring_isSet_l0 (p0 : Col) (p1 : List Int) : Nat → Int → Option (Sum (Unit) (Bool))
 | 0, _ => none
 | k0 + 1, x1 => (if decide (x1 < (p1.length : Int)) then ((if 0 ≤ x1 ∧ x1 < (p1.length : Int) then ((if !(impl_Colouring_has p0 (p1.getD x1.toNat 0)) then some true else (if decide (0 < x1) then (if 0 ≤ w64 (x1 - 1) ∧ w64 (x1 - 1) < (p1.length : Int) then some (decide ((p1.getD x1.toNat 0) ≤ (p1.getD (w64 (x1 - 1)).toNat 0))) else none) else some false)) : Option (Bool)).bind fun s8 => (if s8 then (some (.inr false)).bind fun rr => some (.inr rr) else some (.inl ())) else none) : Option (Sum (Unit) (Sum (Unit) (Bool)))).bind fun os10 => (match os10 with | .inl s10 => impl_Colouring_isSet_l0 p0 p1 k0 (w64 (x1 + 1)) | .inr rr => some rr) else some (.inl ()))
def impl_Colouring_isSet (k : Nat) (p0 : Col) (p1 : List Int) : Option (Bool) :=
 (impl_Colouring_isSet_l0 p0 p1 k 0 : Option (Sum (Unit) (Bool))).bind fun os11 => (match os11 with | .inl s11 => some true | .inr rr => some rr)
set_option maxRecDepth 100000 in
theorem impl_Colouring_isSet_ac (k : Nat) (p0 : Col) (p1 : List Int) (r : Bool) (h : impl_Colouring_isSet k p0 p1 = some r) : AC Try.prog 120 [.d (.pv (colD p0) 0), .d (.sl none (intsD p1))] [] (fun res H' => res = [bV r] ∧ H' = []) := by
 refine AC_of_body true Try.func120 rfl Try.ntmps120 (rvs := [.tmp 4]) rfl rfl (fun G hG => ?_)
 have hm : G.H.length = 0 := by rw [hG]; rfl
 have hz : zeroG G.H = true := by rw [hG]; rfl
 unfold impl_Colouring_isSet at h
 refine ACode_seq (ACode_region ?_)
 refine AOps_q 4 _ rfl rfl rfl (QOp_assign _ _ rfl rfl) ?_
 refine AOps_nil ?_
 obtain ⟨os11, hss11, hks11⟩ := bindO h
 clear h
 refine ACode_seqJ (fun E' H' => ∃ s11 : Unit, os11 = .inl s11 ∧ Weak 32 G E' H' [] []) ?_ ?_
 ·have h := hss11
  clear hss11
  refine ACode_seq (ACode_region ?_)
  refine AOps_q 7 _ rfl rfl rfl (QOp_move _ _ rfl rfl) ?_
  refine AOps_q 8 _ rfl rfl rfl (QOp_len_sl _ _ _ _ _ _ _ (intsD_length _) rfl rfl rfl rfl Try.underlying24 rfl) ?_
  refine AOps_q 9 _ rfl rfl rfl (QOp_move _ _ rfl rfl) ?_
  refine AOps_nil ?_
  refine ACode_block ?_
  refine ACode_loopW (fun k0 E H => ∃ (x1 : Int), E = [(0, .d (.pv (colD p0) 0)), (1, .d (.sl none (intsD p1))), (7, .d (.sl none (intsD p1))), (8, iV (p1.length : Int)), (9, iV x1)] ∧ H = [] ∧ impl_Colouring_isSet_l0 p0 p1 k0 x1 = some os11) k _ _ (Weak_keep 0 hm [0, 1, 7, 8, 9] [] _ _ rfl rfl rfl) ⟨_, rfl, rfl, h⟩ ?_
  clear h
  rintro k0 E H ⟨x1, rfl, rfl, h⟩
  cases k0 with
  | zero => cases (show (none : Option (Sum (Unit) (Bool))) = some _ from h)
  | succ k0 =>
   rw [impl_Colouring_isSet_l0] at h
   refine ACode_seq (ACode_region ?_)
   refine AOps_q 10 _ rfl rfl rfl (QOp_lss _ _ _ _ _ _ _ rfl rfl rfl) ?_
   refine AOps_nil ?_
   refine ACode_seq ?_
   refine ACode_cond _ rfl (fun hb2 => ?_) (fun hb2 => ?_)
   ·have h := iteT hb2 h
    refine ACode_skip ?_
    obtain ⟨os10, hss10, hks10⟩ := bindO h
    clear h
    refine ACode_seqJ (fun E' H' => ∃ s10 : Unit, os10 = .inl s10 ∧ Weak 32 G E' H' [(0, .d (.pv (colD p0) 0)), (1, .d (.sl none (intsD p1))), (7, .d (.sl none (intsD p1))), (8, iV (p1.length : Int)), (9, iV x1)] []) ?_ ?_
    ·have h := hss10
     clear hss10
     refine ACode_block ?_
     refine ACode_seq (ACode_region ?_)
     refine AOps_q 11 _ rfl rfl rfl (QOp_move _ _ rfl rfl) ?_
     obtain ⟨hc3, h⟩ := guardO h
     refine AOps_q 12 _ rfl rfl rfl (QOp_indexAddr_sl _ _ _ _ _ _ _ _ rfl Try.underlying24 Try.sizeOf2 hc3.1 (by rw [intsD_length]; exact hc3.2) rfl rfl) ?_
     refine AOps_q 13 _ rfl rfl rfl (QOp_load_pv _ _ _ _ _ rfl Try.isAgg2 rfl (intsD_get _ _ 0 (by omega))) ?_
     refine AOps_q 5 _ rfl rfl rfl (QOp_assign _ _ rfl rfl) ?_
     refine AOps_q 6 _ rfl rfl rfl (QOp_assign _ _ rfl rfl) ?_
     refine AOps_nil ?_
     obtain ⟨s8, hss8, hks8⟩ := bindO h
     clear h
     refine ACode_seqJ (fun E' H' => Weak 32 G E' H' [(0, .d (.pv (colD p0) 0)), (1, .d (.sl none (intsD p1))), (7, .d (.sl none (intsD p1))), (8, iV (p1.length : Int)), (9, iV x1), (30, bV s8)] []) ?_ ?_
     ·have h := hss8
      clear hss8
      refine (ACode_region ?_)
      refine AOps_q 14 _ rfl rfl rfl (QOp_move _ _ rfl rfl) ?_
      refine AOps_q 15 _ rfl rfl rfl (QOp_move _ _ rfl rfl) ?_
      refine AOps_call [] 16 _ _ _ _ _ _ _ _ _ _ rfl rfl rfl rfl rfl rfl rfl Try.call127 rfl (nodupB_sound _ rfl) rfl rfl rfl (impl_Colouring_has_ac p0 (p1.getD x1.toNat 0)) ?_
      rintro _ _ ⟨rfl, rfl⟩
      refine ⟨(fun _ h => nomatch h), (allc (trivial) (fun _ h => nomatch h)), AOps_as 16 (v' := bV (impl_Colouring_has p0 (p1.getD x1.toNat 0))) (H' := []) rfl rfl ?_⟩
      refine AOps_q 17 _ rfl rfl rfl (QOp_not _ _ _ rfl rfl) ?_
      refine AOps_q 18 _ rfl rfl rfl (QOp_move _ _ rfl rfl) ?_
      refine AOps_case 18 _ rfl (fun hb5 => ?_) (fun hb5 => ?_)
      ·have h := iteT hb5 h
       refine AOps_skip 19 rfl rfl rfl ?_
       refine AOps_skip 20 rfl rfl rfl ?_
       refine AOps_skip 21 rfl rfl rfl ?_
       refine AOps_skip 22 rfl rfl rfl ?_
       refine AOps_skip 23 rfl rfl rfl ?_
       refine AOps_skip 24 rfl rfl rfl ?_
       refine AOps_skip 25 rfl rfl rfl ?_
       refine AOps_skip 26 rfl rfl rfl ?_
       refine AOps_skip 27 rfl rfl rfl ?_
       refine AOps_skip 28 rfl rfl rfl ?_
       refine AOps_skip 29 rfl rfl rfl ?_
       refine AOps_q 30 _ rfl rfl rfl (QOp_pick_t _ _ _ _ rfl rfl rfl) ?_
       refine AOps_nil ?_
       cases h
       exact Weak_keep 0 hm [0, 1, 7, 8, 9, 30] [] _ _ rfl rfl rfl
      ·have h := iteF hb5 h
       refine AOps_q 19 _ rfl rfl rfl (QOp_move _ _ rfl rfl) ?_
       refine AOps_q 20 _ rfl rfl rfl (QOp_gtr _ _ _ _ _ _ _ rfl rfl rfl) ?_
       refine AOps_q 21 _ rfl rfl rfl (QOp_move _ _ rfl rfl) ?_
       refine AOps_case 21 _ rfl (fun hb6 => ?_) (fun hb6 => ?_)
       ·have h := iteT hb6 h
        refine AOps_q 22 _ rfl rfl rfl (QOp_move _ _ rfl rfl) ?_
        refine AOps_q 23 _ rfl rfl rfl (QOp_move _ _ rfl rfl) ?_
        refine AOps_q 24 _ rfl rfl rfl (QOp_sub _ _ _ _ _ _ _ rfl rfl rfl) ?_
        obtain ⟨hc7, h⟩ := guardO h
        refine AOps_q 25 _ rfl rfl rfl (QOp_indexAddr_sl _ _ _ _ _ _ _ _ rfl Try.underlying24 Try.sizeOf2 hc7.1 (by rw [intsD_length]; exact hc7.2) rfl rfl) ?_
        refine AOps_q 26 _ rfl rfl rfl (QOp_load_pv _ _ _ _ _ rfl Try.isAgg2 rfl (intsD_get _ _ 0 (by omega))) ?_
        refine AOps_q 27 _ rfl rfl rfl (QOp_move _ _ rfl rfl) ?_
        refine AOps_q 28 _ rfl rfl rfl (QOp_geq _ _ _ _ _ _ _ rfl rfl rfl) ?_
        refine AOps_q 29 _ rfl rfl rfl (QOp_pick_t _ _ _ _ rfl rfl rfl) ?_
        refine AOps_q 30 _ rfl rfl rfl (QOp_pick_f _ _ _ _ rfl rfl rfl) ?_
        refine AOps_nil ?_
        cases h
        exact Weak_keep 0 hm [0, 1, 7, 8, 9, 30] [] _ _ rfl rfl rfl
       ·have h := iteF hb6 h
        refine AOps_skip 22 rfl rfl rfl ?_
        refine AOps_skip 23 rfl rfl rfl ?_
        refine AOps_skip 24 rfl rfl rfl ?_
        refine AOps_skip 25 rfl rfl rfl ?_
        refine AOps_skip 26 rfl rfl rfl ?_
        refine AOps_skip 27 rfl rfl rfl ?_
        refine AOps_skip 28 rfl rfl rfl ?_
        refine AOps_q 29 _ rfl rfl rfl (QOp_pick_f _ _ _ _ rfl rfl rfl) ?_
        refine AOps_q 30 _ rfl rfl rfl (QOp_pick_f _ _ _ _ rfl rfl rfl) ?_
        refine AOps_nil ?_
        cases h
        exact Weak_keep 0 hm [0, 1, 7, 8, 9, 30] [] _ _ rfl rfl rfl
     intro E' H' hw
     refine ACode_weak hw ?_
     have h := hks8
     refine ACode_cond _ rfl (fun hb9 => ?_) (fun hb9 => ?_)
     ·have h := iteT hb9 h
      refine ACode_seq (ACode_region ?_)
      refine AOps_q 4 _ rfl rfl rfl (QOp_assign _ _ rfl rfl) ?_
      refine AOps_nil ?_
      refine ACode_ret ?_
      obtain ⟨rr, hz12, h2⟩ := bindO h
      obtain rfl := Option.some.inj h2
      obtain rfl := Option.some.inj (show some rr = some _ from hks10)
      have h := hz12
      cases h
      have h := hks11
      cases h
      exact ⟨_, _, fun r a w h => ⟨r, h⟩, _, _, [], _, (.cons (ResV_tmp _ _ rfl) .nil), rfl, rfl, rfl, rfl, rfl⟩
     ·have h := iteF hb9 h
      refine ACode_skip ?_
      cases h
      exact ⟨_, rfl, Weak_keep 0 hm [0, 1, 7, 8, 9] [] _ _ rfl rfl rfl⟩
    rintro E' H' ⟨s10, rfl, hw⟩
    refine ACode_weak hw ?_
    have h := hks10
    refine (ACode_region ?_)
    refine AOps_q 31 _ rfl rfl rfl (QOp_add _ _ _ _ _ _ _ rfl rfl rfl) ?_
    refine AOps_q 9 _ rfl rfl rfl (QOp_move _ _ rfl rfl) ?_
    refine AOps_nil ?_
    exact ⟨k0, _, _, Nat.lt_succ_self _, Weak_keep 0 hm [0, 1, 7, 8, 9] [] _ _ rfl rfl rfl, _, rfl, rfl, h⟩
   ·have h := iteF hb2 h
    refine ACode_exit ?_
    cases h
    exact ⟨_, rfl, Weak_keep 0 hm [] [] _ _ rfl rfl rfl⟩
 rintro E' H' ⟨s11, rfl, hw⟩
 refine ACode_weak hw ?_
 have h := hks11
 refine ACode_seq (ACode_region ?_)
 refine AOps_q 4 _ rfl rfl rfl (QOp_assign _ _ rfl rfl) ?_
 refine AOps_nil ?_
 refine ACode_ret ?_
 cases h
 exact ⟨_, _, fun r a w h => ⟨r, h⟩, _, _, [], _, (.cons (ResV_tmp _ _ rfl) .nil), rfl, rfl, rfl, rfl, rfl⟩

-- loop.example/g01362/impl.IsClique$1
def impl_IsClique_c1 (k : Nat) (p0 : Col) (p1 : Int) (p2 : List Int) : Option (Bool) :=
 ((if (impl_Colouring_hasColour p0 p1) then (impl_Colouring_isSet k p0 p2).bind fun r3 => some r3 else some false) : Option (Bool)).bind fun s4 => some s4
set_option maxRecDepth 100000 in
theorem impl_IsClique_c1_ac (k : Nat) (p0 : Col) (p1 : Int) (p2 : List Int) (r : Bool) (h : impl_IsClique_c1 k p0 p1 p2 = some r) : AC Try.prog 119 [.d (.pv (colD p0) 0), .d (.pv ([iD p1]) 0), .d (.pv ([.sl none (intsD p2)]) 0)] [] (fun res H' => res = [bV r] ∧ H' = []) := by
 refine AC_of_body true Try.func119 rfl Try.ntmps119 (rvs := [.tmp 3]) rfl rfl (fun G hG => ?_)
 have hm : G.H.length = 0 := by rw [hG]; rfl
 have hz : zeroG G.H = true := by rw [hG]; rfl
 unfold impl_IsClique_c1 at h
 refine ACode_seq (ACode_region ?_)
 refine AOps_q 3 _ rfl rfl rfl (QOp_assign _ _ rfl rfl) ?_
 refine AOps_nil ?_
 obtain ⟨s4, hss4, hks4⟩ := bindO h
 clear h
 refine ACode_seqJ (fun E' H' => Weak 10 G E' H' [(3, bV s4)] []) ?_ ?_
 ·have h := hss4
  clear hss4
  refine (ACode_region ?_)
  refine AOps_q 4 _ rfl rfl rfl (QOp_load_pv _ _ _ _ _ rfl Try.isAgg2 rfl rfl) ?_
  refine AOps_call [] 5 _ _ _ _ _ _ _ _ _ _ rfl rfl rfl rfl rfl rfl rfl Try.call103 rfl (nodupB_sound _ rfl) rfl rfl rfl (impl_Colouring_hasColour_ac p0 p1) ?_
  rintro _ _ ⟨rfl, rfl⟩
  refine ⟨(fun _ h => nomatch h), (allc (trivial) (fun _ h => nomatch h)), AOps_as 5 (v' := bV (impl_Colouring_hasColour p0 p1)) (H' := []) rfl rfl ?_⟩
  refine AOps_q 6 _ rfl rfl rfl (QOp_move _ _ rfl rfl) ?_
  refine AOps_case 6 _ rfl (fun hb2 => ?_) (fun hb2 => ?_)
  ·have h := iteT hb2 h
   refine AOps_q 7 _ rfl rfl rfl (QOp_load_pv _ _ _ _ _ rfl Try.isAgg24 rfl rfl) ?_
   obtain ⟨r3, hr3, h⟩ := bindO h
   refine AOps_call [] 8 _ _ _ _ _ _ _ _ _ _ rfl rfl rfl rfl rfl rfl rfl Try.call120 rfl (nodupB_sound _ rfl) rfl rfl rfl (impl_Colouring_isSet_ac k p0 p2 _ hr3) ?_
   rintro _ _ ⟨rfl, rfl⟩
   refine ⟨(fun _ h => nomatch h), (allc (trivial) (fun _ h => nomatch h)), AOps_as 8 (v' := bV r3) (H' := []) rfl rfl ?_⟩
   refine AOps_q 9 _ rfl rfl rfl (QOp_pick_t _ _ _ _ rfl rfl rfl) ?_
   refine AOps_q 3 _ rfl rfl rfl (QOp_assign _ _ rfl rfl) ?_
   refine AOps_nil ?_
   cases h
   exact Weak_keep 0 hm [3] [] _ _ rfl rfl rfl
  ·have h := iteF hb2 h
   refine AOps_skip 7 rfl rfl rfl ?_
   refine AOps_skip 8 rfl rfl rfl ?_
   refine AOps_q 9 _ rfl rfl rfl (QOp_pick_f _ _ _ _ rfl rfl rfl) ?_
   refine AOps_q 3 _ rfl rfl rfl (QOp_assign _ _ rfl rfl) ?_
   refine AOps_nil ?_
   cases h
   exact Weak_keep 0 hm [3] [] _ _ rfl rfl rfl
 intro E' H' hw
 refine ACode_weak hw ?_
 have h := hks4
 refine ACode_ret ?_
 cases h
 exact ⟨_, _, fun r a w h => ⟨r, h⟩, _, _, [], _, (.cons (ResV_tmp _ _ rfl) .nil), rfl, rfl, rfl, rfl, rfl⟩

-- (*loop.example/g01362/impl.Colouring).isClique
def impl_Colouring_isClique_l0 (k : Nat) (p0 : Col) (p1 : Int) (p2 : List Int) : Nat → Int → Option (Sum (Unit) (Bool))
 | 0, _ => none
 | k0 + 1, x1 => (if decide (x1 < (p2.length : Int)) then (if 0 ≤ x1 ∧ x1 < (p2.length : Int) then (if 0 ≤ 0 ∧ 0 ≤ x1 ∧ x1 ≤ (p2.length : Int) then (impl_Colouring_goesWith k p0 p1 ((p2.take x1.toNat).drop 0) (p2.getD x1.toNat 0)).bind fun r5 => (if !r5 then some (.inr false) else impl_Colouring_isClique_l0 k p0 p1 p2 k0 (w64 (x1 + 1))) else none) else none) else some (.inl ()))
def impl_Colouring_isClique (k : Nat) (p0 : Col) (p1 : Int) (p2 : List Int) : Option (Bool) :=
 (impl_Colouring_isClique_l0 k p0 p1 p2 k 0 : Option (Sum (Unit) (Bool))).bind fun os7 => (match os7 with | .inl s7 => some true | .inr rr => some rr)
set_option maxRecDepth 100000 in
theorem impl_Colouring_isClique_ac (k : Nat) (p0 : Col) (p1 : Int) (p2 : List Int) (r : Bool) (h : impl_Colouring_isClique k p0 p1 p2 = some r) : AC Try.prog 121 [.d (.pv (colD p0) 0), iV p1, .d (.sl none (intsD p2))] [] (fun res H' => res = [bV r] ∧ H' = []) := by
 refine AC_of_body true Try.func121 rfl Try.ntmps121 (rvs := [.tmp 6]) rfl rfl (fun G hG => ?_)
 have hm : G.H.length = 0 := by rw [hG]; rfl
 have hz : zeroG G.H = true := by rw [hG]; rfl
 unfold impl_Colouring_isClique at h
 refine ACode_seq (ACode_region ?_)
 refine AOps_q 6 _ rfl rfl rfl (QOp_assign _ _ rfl rfl) ?_
 refine AOps_nil ?_
 obtain ⟨os7, hss7, hks7⟩ := bindO h
 clear h
 refine ACode_seqJ (fun E' H' => ∃ s7 : Unit, os7 = .inl s7 ∧ Weak 25 G E' H' [] []) ?_ ?_
 ·have h := hss7
  clear hss7
  refine ACode_seq (ACode_region ?_)
  refine AOps_q 9 _ rfl rfl rfl (QOp_move _ _ rfl rfl) ?_
  refine AOps_q 10 _ rfl rfl rfl (QOp_len_sl _ _ _ _ _ _ _ (intsD_length _) rfl rfl rfl rfl Try.underlying24 rfl) ?_
  refine AOps_q 11 _ rfl rfl rfl (QOp_move _ _ rfl rfl) ?_
  refine AOps_nil ?_
  refine ACode_block ?_
  refine ACode_loopW (fun k0 E H => ∃ (x1 : Int), E = [(0, .d (.pv (colD p0) 0)), (1, iV p1), (2, .d (.sl none (intsD p2))), (9, .d (.sl none (intsD p2))), (10, iV (p2.length : Int)), (11, iV x1)] ∧ H = [] ∧ impl_Colouring_isClique_l0 k p0 p1 p2 k0 x1 = some os7) k _ _ (Weak_keep 0 hm [0, 1, 2, 9, 10, 11] [] _ _ rfl rfl rfl) ⟨_, rfl, rfl, h⟩ ?_
  clear h
  rintro k0 E H ⟨x1, rfl, rfl, h⟩
  cases k0 with
  | zero => cases (show (none : Option (Sum (Unit) (Bool))) = some _ from h)
  | succ k0 =>
   rw [impl_Colouring_isClique_l0] at h
   refine ACode_seq (ACode_region ?_)
   refine AOps_q 12 _ rfl rfl rfl (QOp_lss _ _ _ _ _ _ _ rfl rfl rfl) ?_
   refine AOps_nil ?_
   refine ACode_seq ?_
   refine ACode_cond _ rfl (fun hb2 => ?_) (fun hb2 => ?_)
   ·have h := iteT hb2 h
    refine ACode_skip ?_
    refine ACode_seq ?_
    refine ACode_block ?_
    refine ACode_seq (ACode_region ?_)
    refine AOps_q 13 _ rfl rfl rfl (QOp_move _ _ rfl rfl) ?_
    obtain ⟨hc3, h⟩ := guardO h
    refine AOps_q 14 _ rfl rfl rfl (QOp_indexAddr_sl _ _ _ _ _ _ _ _ rfl Try.underlying24 Try.sizeOf2 hc3.1 (by rw [intsD_length]; exact hc3.2) rfl rfl) ?_
    refine AOps_q 15 _ rfl rfl rfl (QOp_load_pv _ _ _ _ _ rfl Try.isAgg2 rfl (intsD_get _ _ 0 (by omega))) ?_
    refine AOps_q 7 _ rfl rfl rfl (QOp_assign _ _ rfl rfl) ?_
    refine AOps_q 8 _ rfl rfl rfl (QOp_assign _ _ rfl rfl) ?_
    refine AOps_nil ?_
    refine ACode_seq (ACode_region ?_)
    refine AOps_q 16 _ rfl rfl rfl (QOp_move _ _ rfl rfl) ?_
    refine AOps_q 17 _ rfl rfl rfl (QOp_move _ _ rfl rfl) ?_
    refine AOps_q 18 _ rfl rfl rfl (QOp_move _ _ rfl rfl) ?_
    refine AOps_q 19 _ rfl rfl rfl (QOp_move _ _ rfl rfl) ?_
    obtain ⟨hc4, h⟩ := guardO h
    refine AOps_q 20 _ rfl rfl rfl (QOp_slice_sl _ _ _ _ _ _ _ _ (0) (x1.toNat) rfl Try.underlying24 Try.sizeOf2 rfl rfl ⟨_, by rw [Int.toNat_of_nonneg (by omega)]; rfl⟩ (by omega) (by rw [intsD_length]; omega) (intsD_part _ _ _)) ?_
    refine AOps_q 21 _ rfl rfl rfl (QOp_move _ _ rfl rfl) ?_
    obtain ⟨r5, hr5, h⟩ := bindO h
    refine AOps_call [] 22 _ _ _ _ _ _ _ _ _ _ rfl rfl rfl rfl rfl rfl rfl Try.call138 rfl (nodupB_sound _ rfl) rfl rfl rfl (impl_Colouring_goesWith_ac k p0 p1 ((p2.take x1.toNat).drop 0) (p2.getD x1.toNat 0) _ hr5) ?_
    rintro _ _ ⟨rfl, rfl⟩
    refine ⟨(fun _ h => nomatch h), (allc (trivial) (fun _ h => nomatch h)), AOps_as 22 (v' := bV r5) (H' := []) rfl rfl ?_⟩
    refine AOps_q 23 _ rfl rfl rfl (QOp_not _ _ _ rfl rfl) ?_
    refine AOps_nil ?_
    refine ACode_cond _ rfl (fun hb6 => ?_) (fun hb6 => ?_)
    ·have h := iteT hb6 h
     refine ACode_seq (ACode_region ?_)
     refine AOps_q 6 _ rfl rfl rfl (QOp_assign _ _ rfl rfl) ?_
     refine AOps_nil ?_
     refine ACode_ret ?_
     cases h
     have h := hks7
     cases h
     exact ⟨_, _, fun r a w h => ⟨r, h⟩, _, _, [], _, (.cons (ResV_tmp _ _ rfl) .nil), rfl, rfl, rfl, rfl, rfl⟩
    ·have h := iteF hb6 h
     refine ACode_skip ?_
     refine (ACode_region ?_)
     refine AOps_q 24 _ rfl rfl rfl (QOp_add _ _ _ _ _ _ _ rfl rfl rfl) ?_
     refine AOps_q 11 _ rfl rfl rfl (QOp_move _ _ rfl rfl) ?_
     refine AOps_nil ?_
     exact ⟨k0, _, _, Nat.lt_succ_self _, Weak_keep 0 hm [0, 1, 2, 9, 10, 11] [] _ _ rfl rfl rfl, _, rfl, rfl, h⟩
   ·have h := iteF hb2 h
    refine ACode_exit ?_
    cases h
    exact ⟨_, rfl, Weak_keep 0 hm [] [] _ _ rfl rfl rfl⟩
 rintro E' H' ⟨s7, rfl, hw⟩
 refine ACode_weak hw ?_
 have h := hks7
 refine ACode_seq (ACode_region ?_)
 refine AOps_q 6 _ rfl rfl rfl (QOp_assign _ _ rfl rfl) ?_
 refine AOps_nil ?_
 refine ACode_ret ?_
 cases h
 exact ⟨_, _, fun r a w h => ⟨r, h⟩, _, _, [], _, (.cons (ResV_tmp _ _ rfl) .nil), rfl, rfl, rfl, rfl, rfl⟩

-- loop.example/g01362/impl.IsClique
def impl_IsClique (k : Nat) (p0 : Col) (p1 : Int) (p2 : List Int) : Option (Bool × Int) :=
 (impl_Colouring_code k p0 (impl_IsClique_c1 k p0 p1 p2)).bind fun r1 => (if !decide (r1 = 0) then some (false, r1) else (impl_Colouring_isClique k p0 p1 p2).bind fun r3 => some (r3, 0))
set_option maxRecDepth 100000 in
theorem impl_IsClique_ac (k : Nat) (p0 : Col) (p1 : Int) (p2 : List Int) (r : Bool × Int) (h : impl_IsClique k p0 p1 p2 = some r) : AC Try.prog 35 [.d (.agg (colD p0)), iV p1, .d (.sl none (intsD p2))] [] (fun res H' => res = [bV r.1, iV r.2] ∧ H' = []) := by
 refine AC_of_body true Try.func35 rfl Try.ntmps35 (rvs := [.tmp 6, .tmp 7]) rfl rfl (fun G hG => ?_)
 have hm : G.H.length = 0 := by rw [hG]; rfl
 have hz : zeroG G.H = true := by rw [hG]; rfl
 unfold impl_IsClique at h
 refine ACode_seq (ACode_region ?_)
 refine AOps_boxI 3 _ _ (.agg (colD p0)) (colD p0) rfl (colD_one _) rfl rfl rfl rfl rfl ?_
 refine AOps_boxI 4 _ _ (iD p1) _ rfl (fun c hc => by cases hc with | head => rfl | tail _ h => cases h) rfl rfl rfl rfl rfl ?_
 refine AOps_boxI 5 _ _ (.sl none (intsD p2)) _ rfl (fun c hc => by cases hc with | head => rfl | tail _ h => cases h) rfl rfl rfl rfl rfl ?_
 refine AOps_q 6 _ rfl rfl rfl (QOp_assign _ _ rfl rfl) ?_
 refine AOps_q 7 _ rfl rfl rfl (QOp_assign _ _ rfl rfl) ?_
 refine AOps_nil ?_
 refine ACode_seq ?_
 refine ACode_seq (ACode_region ?_)
 refine AOps_q 9 _ rfl rfl rfl (QOp_makeFuncD _ _ _ _ rfl rfl rfl) ?_
 obtain ⟨r1, hr1, h⟩ := bindO h
 refine AOps_call [] 10 _ _ _ _ _ _ _ _ _ _ rfl rfl rfl rfl rfl rfl rfl Try.call83 rfl (nodupB_sound _ rfl) rfl rfl rfl (impl_Colouring_code_ac k p0 (impl_IsClique_c1 k p0 p1 p2) 119 ([.pv (colD p0) 0, .pv ([iD p1]) 0, .pv ([.sl none (intsD p2)]) 0]) Try.call119 (fun r h => impl_IsClique_c1_ac k p0 p1 p2 r h) _ hr1) ?_
 rintro _ _ ⟨rfl, rfl⟩
 refine ⟨(fun _ h => nomatch h), (allc (trivial) (fun _ h => nomatch h)), AOps_as 10 (v' := iV r1) (H' := []) rfl rfl ?_⟩
 refine AOps_q 8 _ rfl rfl rfl (QOp_assign _ _ rfl rfl) ?_
 refine AOps_nil ?_
 refine ACode_seq (ACode_region ?_)
 refine AOps_q 11 _ rfl rfl rfl (QOp_move _ _ rfl rfl) ?_
 refine AOps_q 12 _ rfl rfl rfl (QOp_neq _ _ _ _ _ _ _ rfl rfl rfl) ?_
 refine AOps_nil ?_
 refine ACode_cond _ rfl (fun hb2 => ?_) (fun hb2 => ?_)
 ·have h := iteT hb2 h
  refine ACode_seq (ACode_region ?_)
  refine AOps_q 13 _ rfl rfl rfl (QOp_move _ _ rfl rfl) ?_
  refine AOps_q 6 _ rfl rfl rfl (QOp_assign _ _ rfl rfl) ?_
  refine AOps_q 7 _ rfl rfl rfl (QOp_assign _ _ rfl rfl) ?_
  refine AOps_nil ?_
  refine ACode_ret ?_
  cases h
  exact ⟨_, _, fun r a w h => ⟨r, h⟩, _, _, [], _, (.cons (ResV_tmp _ _ rfl) (.cons (ResV_tmp _ _ rfl) .nil)), rfl, rfl, rfl, rfl, rfl⟩
 ·have h := iteF hb2 h
  refine ACode_skip ?_
  refine ACode_seq (ACode_region ?_)
  refine AOps_q 14 _ rfl rfl rfl (QOp_load_pv _ _ _ _ _ rfl Try.isAgg2 rfl rfl) ?_
  refine AOps_q 15 _ rfl rfl rfl (QOp_load_pv _ _ _ _ _ rfl Try.isAgg24 rfl rfl) ?_
  obtain ⟨r3, hr3, h⟩ := bindO h
  refine AOps_call [] 16 _ _ _ _ _ _ _ _ _ _ rfl rfl rfl rfl rfl rfl rfl Try.call121 rfl (nodupB_sound _ rfl) rfl rfl rfl (impl_Colouring_isClique_ac k p0 p1 p2 _ hr3) ?_
  rintro _ _ ⟨rfl, rfl⟩
  refine ⟨(fun _ h => nomatch h), (allc (trivial) (fun _ h => nomatch h)), AOps_as 16 (v' := bV r3) (H' := []) rfl rfl ?_⟩
  refine AOps_q 6 _ rfl rfl rfl (QOp_assign _ _ rfl rfl) ?_
  refine AOps_q 7 _ rfl rfl rfl (QOp_assign _ _ rfl rfl) ?_
  refine AOps_nil ?_
  refine ACode_ret ?_
  cases h
  exact ⟨_, _, fun r a w h => ⟨r, h⟩, _, _, [], _, (.cons (ResV_tmp _ _ rfl) (.cons (ResV_tmp _ _ rfl) .nil)), rfl, rfl, rfl, rfl, rfl⟩

-- loop.example/g01362/spec.l01Set
def spec_l01Set_l0 (p1 : List Int) : Nat → Int → Option (Sum (Unit) (Int))
 | 0, _ => none
 | k0 + 1, x3 => (if decide (x3 < (p1.length : Int)) then (if 0 ≤ x3 ∧ x3 < (p1.length : Int) then (if 0 ≤ w64 (x3 - 1) ∧ w64 (x3 - 1) < (p1.length : Int) then (if decide ((p1.getD x3.toNat 0) ≤ (p1.getD (w64 (x3 - 1)).toNat 0)) then some (.inr 2) else spec_l01Set_l0 p1 k0 (w64 (x3 + 1))) else none) else none) else some (.inl ()))
def spec_l01Set (k : Nat) (p0 : Col) (p1 : List Int) : Option (Int) :=
 (spec_l01Given k p0 0 p1).bind fun r1 => (if !decide (r1 = 0) then some r1 else (spec_l01Set_l0 p1 k 1 : Option (Sum (Unit) (Int))).bind fun os8 => (match os8 with | .inl s8 => some 0 | .inr rr => some rr))
set_option maxRecDepth 100000 in
theorem spec_l01Set_ac (k : Nat) (p0 : Col) (p1 : List Int) (r : Int) (h : spec_l01Set k p0 p1 = some r) : AC Try.prog 122 [.d (.agg (colD p0)), .d (.sl none (intsD p1))] [] (fun res H' => res = [iV r] ∧ H' = []) := by
 refine AC_of_body true Try.func122 rfl Try.ntmps122 (rvs := [.tmp 4]) rfl rfl (fun G hG => ?_)
 have hm : G.H.length = 0 := by rw [hG]; rfl
 have hz : zeroG G.H = true := by rw [hG]; rfl
 unfold spec_l01Set at h
 refine ACode_seq (ACode_region ?_)
 refine AOps_boxI 2 _ _ (.agg (colD p0)) (colD p0) rfl (colD_one _) rfl rfl rfl rfl rfl ?_
 refine AOps_q 4 _ rfl rfl rfl (QOp_assign _ _ rfl rfl) ?_
 refine AOps_nil ?_
 refine ACode_seq ?_
 refine ACode_seq (ACode_region ?_)
 refine AOps_q 7 _ rfl rfl rfl (QOp_loadN_pv _ _ _ _ _ _ rfl Try.isAgg29 Try.sizeOf29 rfl (colD_all _) (colD_length _)) ?_
 refine AOps_q 8 _ rfl rfl rfl (QOp_move _ _ rfl rfl) ?_
 obtain ⟨r1, hr1, h⟩ := bindO h
 refine AOps_call [] 9 _ _ _ _ _ _ _ _ _ _ rfl rfl rfl rfl rfl rfl rfl Try.call107 rfl (nodupB_sound _ rfl) rfl rfl rfl (spec_l01Given_ac k p0 0 p1 _ hr1) ?_
 rintro _ _ ⟨rfl, rfl⟩
 refine ⟨(fun _ h => nomatch h), (allc (trivial) (fun _ h => nomatch h)), AOps_as 9 (v' := iV r1) (H' := []) rfl rfl ?_⟩
 refine AOps_q 5 _ rfl rfl rfl (QOp_assign _ _ rfl rfl) ?_
 refine AOps_nil ?_
 refine ACode_seq (ACode_region ?_)
 refine AOps_q 10 _ rfl rfl rfl (QOp_move _ _ rfl rfl) ?_
 refine AOps_q 11 _ rfl rfl rfl (QOp_neq _ _ _ _ _ _ _ rfl rfl rfl) ?_
 refine AOps_nil ?_
 refine ACode_cond _ rfl (fun hb2 => ?_) (fun hb2 => ?_)
 ·have h := iteT hb2 h
  refine ACode_seq (ACode_region ?_)
  refine AOps_q 12 _ rfl rfl rfl (QOp_move _ _ rfl rfl) ?_
  refine AOps_q 4 _ rfl rfl rfl (QOp_assign _ _ rfl rfl) ?_
  refine AOps_nil ?_
  refine ACode_ret ?_
  cases h
  exact ⟨_, _, fun r a w h => ⟨r, h⟩, _, _, [], _, (.cons (ResV_tmp _ _ rfl) .nil), rfl, rfl, rfl, rfl, rfl⟩
 ·have h := iteF hb2 h
  refine ACode_skip ?_
  obtain ⟨os8, hss8, hks8⟩ := bindO h
  clear h
  refine ACode_seqJ (fun E' H' => ∃ s8 : Unit, os8 = .inl s8 ∧ Weak 29 G E' H' [] []) ?_ ?_
  ·have h := hss8
   clear hss8
   refine ACode_seq (ACode_region ?_)
   refine AOps_q 6 _ rfl rfl rfl (QOp_assign _ _ rfl rfl) ?_
   refine AOps_nil ?_
   refine ACode_block ?_
   refine ACode_loopW (fun k0 E H => ∃ (x3 : Int), E = [(1, .d (.sl none (intsD p1))), (6, iV x3)] ∧ H = [] ∧ spec_l01Set_l0 p1 k0 x3 = some os8) k _ _ (Weak_keep 0 hm [1, 6] [] _ _ rfl rfl rfl) ⟨_, rfl, rfl, h⟩ ?_
   clear h
   rintro k0 E H ⟨x3, rfl, rfl, h⟩
   cases k0 with
   | zero => cases (show (none : Option (Sum (Unit) (Int))) = some _ from h)
   | succ k0 =>
    rw [spec_l01Set_l0] at h
    refine ACode_seq ?_
    refine ACode_seq (ACode_region ?_)
    refine AOps_q 13 _ rfl rfl rfl (QOp_move _ _ rfl rfl) ?_
    refine AOps_q 14 _ rfl rfl rfl (QOp_move _ _ rfl rfl) ?_
    refine AOps_q 15 _ rfl rfl rfl (QOp_len_sl _ _ _ _ _ _ _ (intsD_length _) rfl rfl rfl rfl Try.underlying24 rfl) ?_
    refine AOps_q 16 _ rfl rfl rfl (QOp_lss _ _ _ _ _ _ _ rfl rfl rfl) ?_
    refine AOps_nil ?_
    refine ACode_cond _ rfl (fun hb4 => ?_) (fun hb4 => ?_)
    ·have h := iteT hb4 h
     refine ACode_skip ?_
     refine ACode_seq ?_
     refine ACode_block ?_
     refine ACode_seq (ACode_quiet mixed (by kernel_rfl) ?_)
     refine AQ_q 19 _ rfl rfl rfl (QOp_move _ _ rfl rfl) ?_
     refine AQ_q 20 _ rfl rfl rfl (QOp_move _ _ rfl rfl) ?_
     obtain ⟨hc5, h⟩ := guardO h
     refine AQ_q 21 _ rfl rfl rfl (QOp_indexAddr_sl _ _ _ _ _ _ _ _ rfl Try.underlying24 Try.sizeOf2 hc5.1 (by rw [intsD_length]; exact hc5.2) rfl rfl) ?_
     refine AQ_q 22 _ rfl rfl rfl (QOp_load_pv _ _ _ _ _ rfl Try.isAgg2 rfl (intsD_get _ _ 0 (by omega))) ?_
     refine AQ_q 23 _ rfl rfl rfl (QOp_move _ _ rfl rfl) ?_
     refine AQ_q 24 _ rfl rfl rfl (QOp_move _ _ rfl rfl) ?_
     refine AQ_q 25 _ rfl rfl rfl (QOp_sub _ _ _ _ _ _ _ rfl rfl rfl) ?_
     obtain ⟨hc6, h⟩ := guardO h
     refine AQ_q 26 _ rfl rfl rfl (QOp_indexAddr_sl _ _ _ _ _ _ _ _ rfl Try.underlying24 Try.sizeOf2 hc6.1 (by rw [intsD_length]; exact hc6.2) rfl rfl) ?_
     refine AQ_q 27 _ rfl rfl rfl (QOp_load_pv _ _ _ _ _ rfl Try.isAgg2 rfl (intsD_get _ _ 0 (by omega))) ?_
     refine AQ_q 28 _ rfl rfl rfl (QOp_leq _ _ _ _ _ _ _ rfl rfl rfl) ?_
     refine AQ_nil ?_
     refine ACode_cond _ rfl (fun hb7 => ?_) (fun hb7 => ?_)
     ·have h := iteT hb7 h
      refine ACode_seq (ACode_region ?_)
      refine AOps_q 4 _ rfl rfl rfl (QOp_assign _ _ rfl rfl) ?_
      refine AOps_nil ?_
      refine ACode_ret ?_
      cases h
      have h := hks8
      cases h
      exact ⟨_, _, fun r a w h => ⟨r, h⟩, _, _, [], _, (.cons (ResV_tmp _ _ rfl) .nil), rfl, rfl, rfl, rfl, rfl⟩
     ·have h := iteF hb7 h
      refine ACode_skip ?_
      refine (ACode_region ?_)
      refine AOps_q 17 _ rfl rfl rfl (QOp_move _ _ rfl rfl) ?_
      refine AOps_q 18 _ rfl rfl rfl (QOp_add _ _ _ _ _ _ _ rfl rfl rfl) ?_
      refine AOps_q 6 _ rfl rfl rfl (QOp_assign _ _ rfl rfl) ?_
      refine AOps_nil ?_
      exact ⟨k0, _, _, Nat.lt_succ_self _, Weak_keep 0 hm [1, 6] [] _ _ rfl rfl rfl, _, rfl, rfl, h⟩
    ·have h := iteF hb4 h
     refine ACode_exit ?_
     cases h
     exact ⟨_, rfl, Weak_keep 0 hm [] [] _ _ rfl rfl rfl⟩
  rintro E' H' ⟨s8, rfl, hw⟩
  refine ACode_weak hw ?_
  have h := hks8
  refine ACode_seq (ACode_region ?_)
  refine AOps_q 4 _ rfl rfl rfl (QOp_assign _ _ rfl rfl) ?_
  refine AOps_nil ?_
  refine ACode_ret ?_
  cases h
  exact ⟨_, _, fun r a w h => ⟨r, h⟩, _, _, [], _, (.cons (ResV_tmp _ _ rfl) .nil), rfl, rfl, rfl, rfl, rfl⟩

-- loop.example/g01362/spec.l01Bits
def spec_l01Bits_l0 (p0 : List Int) : Nat → Int → Int → Option (Int)
 | 0, _, _ => none
 | k0 + 1, x1, x2 => (if decide (x2 < (p0.length : Int)) then (if 0 ≤ x2 ∧ x2 < (p0.length : Int) then (if 0 ≤ IntKind.u64.wrap (p0.getD x2.toNat 0) then spec_l01Bits_l0 p0 k0 (bOr .i64 x1 (bShl .i64 1 (IntKind.u64.wrap (p0.getD x2.toNat 0)))) (w64 (x2 + 1)) else none) else none) else some x1)
def spec_l01Bits (k : Nat) (p0 : List Int) : Option (Int) :=
 (spec_l01Bits_l0 p0 k 0 0 : Option (Int)).bind fun s6 => some s6
set_option maxRecDepth 100000 in
theorem spec_l01Bits_ac (k : Nat) (p0 : List Int) (r : Int) (h : spec_l01Bits k p0 = some r) : AC Try.prog 124 [.d (.sl none (intsD p0))] [] (fun res H' => res = [iV r] ∧ H' = []) := by
 refine AC_of_body true Try.func124 rfl Try.ntmps124 (rvs := [.tmp 2]) rfl rfl (fun G hG => ?_)
 have hm : G.H.length = 0 := by rw [hG]; rfl
 have hz : zeroG G.H = true := by rw [hG]; rfl
 unfold spec_l01Bits at h
 refine ACode_seq (ACode_region ?_)
 refine AOps_q 2 _ rfl rfl rfl (QOp_assign _ _ rfl rfl) ?_
 refine AOps_nil ?_
 refine ACode_seq (ACode_region ?_)
 refine AOps_q 3 _ rfl rfl rfl (QOp_assign _ _ rfl rfl) ?_
 refine AOps_nil ?_
 obtain ⟨s6, hss6, hks6⟩ := bindO h
 clear h
 refine ACode_seqJ (fun E' H' => Weak 20 G E' H' [(3, iV s6)] []) ?_ ?_
 ·have h := hss6
  clear hss6
  refine ACode_seq (ACode_region ?_)
  refine AOps_q 4 _ rfl rfl rfl (QOp_assign _ _ rfl rfl) ?_
  refine AOps_nil ?_
  refine ACode_block ?_
  refine ACode_loopW (fun k0 E H => ∃ (x1 : Int) (x2 : Int), E = [(0, .d (.sl none (intsD p0))), (3, iV x1), (4, iV x2)] ∧ H = [] ∧ spec_l01Bits_l0 p0 k0 x1 x2 = some s6) k _ _ (Weak_keep 0 hm [0, 3, 4] [] _ _ rfl rfl rfl) ⟨_, _, rfl, rfl, h⟩ ?_
  clear h
  rintro k0 E H ⟨x1, x2, rfl, rfl, h⟩
  cases k0 with
  | zero => cases (show (none : Option (Int)) = some _ from h)
  | succ k0 =>
   rw [spec_l01Bits_l0] at h
   refine ACode_seq ?_
   refine ACode_seq (ACode_region ?_)
   refine AOps_q 5 _ rfl rfl rfl (QOp_move _ _ rfl rfl) ?_
   refine AOps_q 6 _ rfl rfl rfl (QOp_move _ _ rfl rfl) ?_
   refine AOps_q 7 _ rfl rfl rfl (QOp_len_sl _ _ _ _ _ _ _ (intsD_length _) rfl rfl rfl rfl Try.underlying24 rfl) ?_
   refine AOps_q 8 _ rfl rfl rfl (QOp_lss _ _ _ _ _ _ _ rfl rfl rfl) ?_
   refine AOps_nil ?_
   refine ACode_cond _ rfl (fun hb3 => ?_) (fun hb3 => ?_)
   ·have h := iteT hb3 h
    refine ACode_skip ?_
    refine ACode_seq ?_
    refine ACode_block ?_
    refine (ACode_region ?_)
    refine AOps_q 11 _ rfl rfl rfl (QOp_move _ _ rfl rfl) ?_
    refine AOps_q 12 _ rfl rfl rfl (QOp_move _ _ rfl rfl) ?_
    refine AOps_q 13 _ rfl rfl rfl (QOp_move _ _ rfl rfl) ?_
    obtain ⟨hc4, h⟩ := guardO h
    refine AOps_q 14 _ rfl rfl rfl (QOp_indexAddr_sl _ _ _ _ _ _ _ _ rfl Try.underlying24 Try.sizeOf2 hc4.1 (by rw [intsD_length]; exact hc4.2) rfl rfl) ?_
    refine AOps_q 15 _ rfl rfl rfl (QOp_load_pv _ _ _ _ _ rfl Try.isAgg2 rfl (intsD_get _ _ 0 (by omega))) ?_
    refine AOps_q 16 _ rfl rfl rfl (QOp_conv _ _ _ _ _ _ rfl rfl Try.underlying106 rfl) ?_
    obtain ⟨hc5, h⟩ := guardO h
    refine AOps_q 17 _ rfl rfl rfl (QOp_shl _ _ _ _ _ _ _ _ hc5 rfl rfl rfl) ?_
    refine AOps_q 18 _ rfl rfl rfl (QOp_or _ _ _ _ _ _ _ rfl rfl rfl) ?_
    refine AOps_q 3 _ rfl rfl rfl (QOp_assign _ _ rfl rfl) ?_
    refine AOps_nil ?_
    refine (ACode_region ?_)
    refine AOps_q 9 _ rfl rfl rfl (QOp_move _ _ rfl rfl) ?_
    refine AOps_q 10 _ rfl rfl rfl (QOp_add _ _ _ _ _ _ _ rfl rfl rfl) ?_
    refine AOps_q 4 _ rfl rfl rfl (QOp_assign _ _ rfl rfl) ?_
    refine AOps_nil ?_
    exact ⟨k0, _, _, Nat.lt_succ_self _, Weak_keep 0 hm [0, 3, 4] [] _ _ rfl rfl rfl, _, _, rfl, rfl, h⟩
   ·have h := iteF hb3 h
    refine ACode_exit ?_
    cases h
    exact Weak_keep 0 hm [3] [] _ _ rfl rfl rfl
 intro E' H' hw
 refine ACode_weak hw ?_
 have h := hks6
 refine ACode_seq (ACode_region ?_)
 refine AOps_q 19 _ rfl rfl rfl (QOp_move _ _ rfl rfl) ?_
 refine AOps_q 2 _ rfl rfl rfl (QOp_assign _ _ rfl rfl) ?_
 refine AOps_nil ?_
 refine ACode_ret ?_
 cases h
 exact ⟨_, _, fun r a w h => ⟨r, h⟩, _, _, [], _, (.cons (ResV_tmp _ _ rfl) .nil), rfl, rfl, rfl, rfl, rfl⟩

-- loop.example/g01362/spec.l01Points
def spec_l01Points_l0 (p0 : Int) : Nat → Int → (List Int) → Option (List Int)
 | 0, _, _ => none
 | k0 + 1, x1, x2 => (if decide (x1 < 62) then ((if 0 ≤ IntKind.u64.wrap x1 then (if decide (bAnd .i64 (bShr .i64 p0 (IntKind.u64.wrap x1)) 1 = 1) then (if x2.length + ([x1]).length ≤ 1099511627776 then some (x2 ++ ([x1])) else none) else some x2) else none) : Option (List Int)).bind fun s7 => spec_l01Points_l0 p0 k0 (w64 (x1 + 1)) s7 else some x2)
def spec_l01Points (k : Nat) (p0 : Int) : Option (List Int) :=
 (spec_l01Points_l0 p0 k 0 ([] : List Int) : Option (List Int)).bind fun s8 => some s8
set_option maxRecDepth 100000 in
theorem spec_l01Points_ac (k : Nat) (p0 : Int) (r : List Int) (h : spec_l01Points k p0 = some r) : AC Try.prog 140 [iV p0] [] (fun res H' => res = [.vec 0 0] ∧ H' = [.vec 0 (intsD r)]) := by
 refine AC_of_body true Try.func140 rfl Try.ntmps140 (rvs := [.tmp 2]) rfl rfl (fun G hG => ?_)
 have hm : G.H.length = 0 := by rw [hG]; rfl
 have hz : zeroG G.H = true := by rw [hG]; rfl
 unfold spec_l01Points at h
 refine ACode_seq (ACode_region ?_)
 refine AOps_q 2 _ rfl rfl rfl (QOp_assign _ _ rfl rfl) ?_
 refine AOps_nil ?_
 refine ACode_seq (ACode_region ?_)
 refine AOps_buildSlice 5 _ _ _ [] (intsD ([] : List Int)) _ rfl rfl rfl rfl rfl (by decide) Try.underlying24 Try.sizeOf2 (zero_of Try.typeInfo2 rfl) rfl rfl (intsD_one _) ?_
 refine AOps_q 3 _ rfl rfl rfl (QOp_assign _ _ rfl rfl) ?_
 refine AOps_nil ?_
 obtain ⟨s8, hss8, hks8⟩ := bindO h
 clear h
 refine ACode_seqJ (fun E' H' => Weak 21 G E' H' [(3, .vec 0 0)] [.vec 0 (intsD s8)]) ?_ ?_
 ·have h := hss8
  clear hss8
  refine ACode_seq (ACode_region ?_)
  refine AOps_q 4 _ rfl rfl rfl (QOp_assign _ _ rfl rfl) ?_
  refine AOps_nil ?_
  refine ACode_block ?_
  refine ACode_loopW (fun k0 E H => ∃ (x1 : Int) (x2 : List Int), E = [(0, iV p0), (3, .vec 0 0), (4, iV x1)] ∧ H = [.vec 0 (intsD x2)] ∧ spec_l01Points_l0 p0 k0 x1 x2 = some s8) k _ _ (Weak_keep 0 hm [0, 3, 4] [0] _ _ rfl rfl rfl) ⟨_, _, rfl, rfl, h⟩ ?_
  clear h
  rintro k0 E H ⟨x1, x2, rfl, rfl, h⟩
  cases k0 with
  | zero => cases (show (none : Option (List Int)) = some _ from h)
  | succ k0 =>
   rw [spec_l01Points_l0] at h
   refine ACode_seq ?_
   refine ACode_seq (ACode_region ?_)
   refine AOps_q 6 _ rfl rfl rfl (QOp_move _ _ rfl rfl) ?_
   refine AOps_q 7 _ rfl rfl rfl (QOp_lss _ _ _ _ _ _ _ rfl rfl rfl) ?_
   refine AOps_nil ?_
   refine ACode_cond _ rfl (fun hb3 => ?_) (fun hb3 => ?_)
   ·have h := iteT hb3 h
    refine ACode_skip ?_
    obtain ⟨s7, hss7, hks7⟩ := bindO h
    clear h
    refine ACode_seqJ (fun E' H' => Weak 21 G E' H' [(0, iV p0), (3, .vec 0 0), (4, iV x1)] [.vec 0 (intsD s7)]) ?_ ?_
    ·have h := hss7
     clear hss7
     refine ACode_block ?_
     refine ACode_seq (ACode_region ?_)
     refine AOps_q 10 _ rfl rfl rfl (QOp_move _ _ rfl rfl) ?_
     refine AOps_q 11 _ rfl rfl rfl (QOp_move _ _ rfl rfl) ?_
     refine AOps_q 12 _ rfl rfl rfl (QOp_conv _ _ _ _ _ _ rfl rfl Try.underlying106 rfl) ?_
     obtain ⟨hc4, h⟩ := guardO h
     refine AOps_q 13 _ rfl rfl rfl (QOp_shr _ _ _ _ _ _ _ _ hc4 rfl rfl rfl) ?_
     refine AOps_q 14 _ rfl rfl rfl (QOp_and _ _ _ _ _ _ _ rfl rfl rfl) ?_
     refine AOps_q 15 _ rfl rfl rfl (QOp_eql _ _ _ _ _ _ _ rfl rfl rfl) ?_
     refine AOps_nil ?_
     refine ACode_cond _ rfl (fun hb5 => ?_) (fun hb5 => ?_)
     ·have h := iteT hb5 h
      refine (ACode_region ?_)
      refine AOps_q 16 _ rfl rfl rfl (QOp_move _ _ rfl rfl) ?_
      refine AOps_q 17 _ rfl rfl rfl (QOp_move _ _ rfl rfl) ?_
      refine AOps_buildSlice 18 _ _ _ [_] (intsD ([x1])) _ rfl rfl rfl rfl rfl (by decide) Try.underlying24 Try.sizeOf2 (zero_of Try.typeInfo2 rfl) rfl rfl (intsD_one _) ?_
      obtain ⟨hc6, h⟩ := guardO h
      refine AOps_append 19 _ _ _ _ _ _ _ _ _ _ _ _ rfl rfl rfl rfl rfl rfl rfl Try.underlying24 Try.type2 rfl rfl rfl (by decide) rfl rfl rfl rfl (intsD_one _) (by rw [intsD_length, intsD_length]; exact hc6) ?_
      rw [intsD_app]
      refine AOps_q 3 _ rfl rfl rfl (QOp_assign _ _ rfl rfl) ?_
      refine AOps_nil ?_
      cases h
      exact Weak_trans (Weak_keep 0 hm [0, 3, 4] [0] _ _ rfl rfl rfl) (Weak_reset 0 hm hz [0, 3, 4] _ _ rfl rfl)
     ·have h := iteF hb5 h
      refine ACode_skip ?_
      cases h
      exact Weak_keep 0 hm [0, 3, 4] [0] _ _ rfl rfl rfl
    intro E' H' hw
    refine ACode_weak hw ?_
    have h := hks7
    refine (ACode_region ?_)
    refine AOps_q 8 _ rfl rfl rfl (QOp_move _ _ rfl rfl) ?_
    refine AOps_q 9 _ rfl rfl rfl (QOp_add _ _ _ _ _ _ _ rfl rfl rfl) ?_
    refine AOps_q 4 _ rfl rfl rfl (QOp_assign _ _ rfl rfl) ?_
    refine AOps_nil ?_
    exact ⟨k0, _, _, Nat.lt_succ_self _, Weak_keep 0 hm [0, 3, 4] [0] _ _ rfl rfl rfl, _, _, rfl, rfl, h⟩
   ·have h := iteF hb3 h
    refine ACode_exit ?_
    cases h
    exact Weak_keep 0 hm [3] [0] _ _ rfl rfl rfl
 intro E' H' hw
 refine ACode_weak hw ?_
 have h := hks8
 refine ACode_seq (ACode_region ?_)
 refine AOps_q 20 _ rfl rfl rfl (QOp_move _ _ rfl rfl) ?_
 refine AOps_q 2 _ rfl rfl rfl (QOp_assign _ _ rfl rfl) ?_
 refine AOps_nil ?_
 refine ACode_ret ?_
 cases h
 exact ⟨_, _, Weak_reset 0 hm hz [2] _ _ rfl rfl, _, _, [0], _, (.cons (ResV_tmp _ _ rfl) .nil), rfl, rfl, rfl, rfl, rfl⟩

-- loop.example/g01362/spec.l02Clique
def spec_l02Clique_l1 (p0 : Col) (p1 : Int) (r1 : List Int) (x2 : Int) : Nat → Int → Option (Sum (Unit) (Sum (Unit) (Bool)))
 | 0, _ => none
 | k1 + 1, x4 => (if decide (x4 < x2) then (if 0 ≤ x4 ∧ x4 < (r1.length : Int) then (if 0 ≤ x2 ∧ x2 < (r1.length : Int) then (spec_l01At p0 (r1.getD x4.toNat 0) (r1.getD x2.toNat 0)).bind fun r8 => (if !decide (r8 = p1) then (some (.inr false)).bind fun rr => some (.inr rr) else spec_l02Clique_l1 p0 p1 r1 x2 k1 (w64 (x4 + 1))) else none) else none) else some (.inl ()))
def spec_l02Clique_l0 (k : Nat) (p0 : Col) (p1 : Int) (r1 : List Int) : Nat → Int → Option (Sum (Unit) (Bool))
 | 0, _ => none
 | k0 + 1, x2 => (if decide (x2 < (r1.length : Int)) then (spec_l02Clique_l1 p0 p1 r1 x2 k 0 : Option (Sum (Unit) (Sum (Unit) (Bool)))).bind fun os10 => (match os10 with | .inl s10 => spec_l02Clique_l0 k p0 p1 r1 k0 (w64 (x2 + 1)) | .inr rr => some rr) else some (.inl ()))
def spec_l02Clique (k : Nat) (p0 : Col) (p1 : Int) (p2 : Int) : Option (Bool) :=
 (spec_l01Points k p2).bind fun r1 => (spec_l02Clique_l0 k p0 p1 r1 k 0 : Option (Sum (Unit) (Bool))).bind fun os11 => (match os11 with | .inl s11 => some true | .inr rr => some rr)
set_option maxRecDepth 100000 in
theorem spec_l02Clique_ac (k : Nat) (p0 : Col) (p1 : Int) (p2 : Int) (r : Bool) (h : spec_l02Clique k p0 p1 p2 = some r) : AC Try.prog 123 [.d (.agg (colD p0)), iV p1, iV p2] [] (fun res H' => res = [bV r] ∧ H' = []) := by
 refine AC_of_body true Try.func123 rfl Try.ntmps123 (rvs := [.tmp 6]) rfl rfl (fun G hG => ?_)
 have hm : G.H.length = 0 := by rw [hG]; rfl
 have hz : zeroG G.H = true := by rw [hG]; rfl
 unfold spec_l02Clique at h
 refine ACode_seq (ACode_region ?_)
 refine AOps_boxI 3 _ _ (.agg (colD p0)) (colD p0) rfl (colD_one _) rfl rfl rfl rfl rfl ?_
 refine AOps_q 6 _ rfl rfl rfl (QOp_assign _ _ rfl rfl) ?_
 refine AOps_nil ?_
 refine ACode_seq (ACode_region ?_)
 refine AOps_q 10 _ rfl rfl rfl (QOp_move _ _ rfl rfl) ?_
 obtain ⟨r1, hr1, h⟩ := bindO h
 refine AOps_call [] 11 _ _ _ _ _ _ _ _ _ _ rfl rfl rfl rfl rfl rfl rfl Try.call140 rfl (nodupB_sound _ rfl) rfl rfl rfl (spec_l01Points_ac k p2 _ hr1) ?_
 rintro _ _ ⟨rfl, rfl⟩
 refine ⟨(allc (fun _ _ => trivial) (fun _ h => nomatch h)), (allc (trivial) (fun _ h => nomatch h)), AOps_as 11 (v' := .vec 0 0) (H' := [.vec 0 (intsD r1)]) rfl rfl ?_⟩
 refine AOps_q 7 _ rfl rfl rfl (QOp_assign _ _ rfl rfl) ?_
 refine AOps_nil ?_
 obtain ⟨os11, hss11, hks11⟩ := bindO h
 clear h
 refine ACode_seqJ (fun E' H' => ∃ s11 : Unit, os11 = .inl s11 ∧ Weak 35 G E' H' [] []) ?_ ?_
 ·have h := hss11
  clear hss11
  refine ACode_seq (ACode_region ?_)
  refine AOps_q 8 _ rfl rfl rfl (QOp_assign _ _ rfl rfl) ?_
  refine AOps_nil ?_
  refine ACode_block ?_
  refine ACode_loopW (fun k0 E H => ∃ (x2 : Int), E = [(1, iV p1), (3, .d (.pv (colD p0) 0)), (7, .vec 0 0), (8, iV x2)] ∧ H = [.vec 0 (intsD r1)] ∧ spec_l02Clique_l0 k p0 p1 r1 k0 x2 = some os11) k _ _ (Weak_keep 0 hm [1, 3, 7, 8] [0] _ _ rfl rfl rfl) ⟨_, rfl, rfl, h⟩ ?_
  clear h
  rintro k0 E H ⟨x2, rfl, rfl, h⟩
  cases k0 with
  | zero => cases (show (none : Option (Sum (Unit) (Bool))) = some _ from h)
  | succ k0 =>
   rw [spec_l02Clique_l0] at h
   refine ACode_seq ?_
   refine ACode_seq (ACode_region ?_)
   refine AOps_q 12 _ rfl rfl rfl (QOp_move _ _ rfl rfl) ?_
   refine AOps_q 13 _ rfl rfl rfl (QOp_move _ _ rfl rfl) ?_
   refine AOps_q 14 _ rfl rfl rfl (QOp_len_vec _ _ _ _ _ _ _ _ (intsD_length _) rfl rfl rfl rfl Try.underlying24 rfl rfl) ?_
   refine AOps_q 15 _ rfl rfl rfl (QOp_lss _ _ _ _ _ _ _ rfl rfl rfl) ?_
   refine AOps_nil ?_
   refine ACode_cond _ rfl (fun hb3 => ?_) (fun hb3 => ?_)
   ·have h := iteT hb3 h
    refine ACode_skip ?_
    obtain ⟨os10, hss10, hks10⟩ := bindO h
    clear h
    refine ACode_seqJ (fun E' H' => ∃ s10 : Unit, os10 = .inl s10 ∧ Weak 35 G E' H' [(1, iV p1), (3, .d (.pv (colD p0) 0)), (7, .vec 0 0), (8, iV x2)] [.vec 0 (intsD r1)]) ?_ ?_
    ·have h := hss10
     clear hss10
     refine ACode_block ?_
     refine ACode_seq (ACode_region ?_)
     refine AOps_q 9 _ rfl rfl rfl (QOp_assign _ _ rfl rfl) ?_
     refine AOps_nil ?_
     refine ACode_block ?_
     refine ACode_loopW (fun k1 E H => ∃ (x4 : Int), E = [(1, iV p1), (3, .d (.pv (colD p0) 0)), (7, .vec 0 0), (8, iV x2), (9, iV x4)] ∧ H = [.vec 0 (intsD r1)] ∧ spec_l02Clique_l1 p0 p1 r1 x2 k1 x4 = some os10) k _ _ (Weak_keep 0 hm [1, 3, 7, 8, 9] [0] _ _ rfl rfl rfl) ⟨_, rfl, rfl, h⟩ ?_
     clear h
     rintro k1 E H ⟨x4, rfl, rfl, h⟩
     cases k1 with
     | zero => cases (show (none : Option (Sum (Unit) (Sum (Unit) (Bool)))) = some _ from h)
     | succ k1 =>
      rw [spec_l02Clique_l1] at h
      refine ACode_seq ?_
      refine ACode_seq (ACode_region ?_)
      refine AOps_q 18 _ rfl rfl rfl (QOp_move _ _ rfl rfl) ?_
      refine AOps_q 19 _ rfl rfl rfl (QOp_move _ _ rfl rfl) ?_
      refine AOps_q 20 _ rfl rfl rfl (QOp_lss _ _ _ _ _ _ _ rfl rfl rfl) ?_
      refine AOps_nil ?_
      refine ACode_cond _ rfl (fun hb5 => ?_) (fun hb5 => ?_)
      ·have h := iteT hb5 h
       refine ACode_skip ?_
       refine ACode_seq ?_
       refine ACode_block ?_
       refine ACode_seq (ACode_quiet mixed (by kernel_rfl) ?_)
       refine AQ_q 23 _ rfl rfl rfl (QOp_loadN_pv _ _ _ _ _ _ rfl Try.isAgg29 Try.sizeOf29 rfl (colD_all _) (colD_length _)) ?_
       refine AQ_q 24 _ rfl rfl rfl (QOp_move _ _ rfl rfl) ?_
       refine AQ_q 25 _ rfl rfl rfl (QOp_move _ _ rfl rfl) ?_
       obtain ⟨hc6, h⟩ := guardO h
       refine AQ_q 26 _ rfl rfl rfl (QOp_indexAddr_vec _ _ _ _ _ _ _ _ _ rfl Try.underlying24 Try.sizeOf2 hc6.1 (by rw [intsD_length]; exact hc6.2) rfl rfl rfl) ?_
       refine AQ_q 27 _ rfl rfl rfl (QOp_load_eptr _ _ _ _ _ _ _ rfl Try.isAgg2 rfl rfl (intsD_get _ _ 0 (by omega))) ?_
       refine AQ_q 28 _ rfl rfl rfl (QOp_move _ _ rfl rfl) ?_
       refine AQ_q 29 _ rfl rfl rfl (QOp_move _ _ rfl rfl) ?_
       obtain ⟨hc7, h⟩ := guardO h
       refine AQ_q 30 _ rfl rfl rfl (QOp_indexAddr_vec _ _ _ _ _ _ _ _ _ rfl Try.underlying24 Try.sizeOf2 hc7.1 (by rw [intsD_length]; exact hc7.2) rfl rfl rfl) ?_
       refine AQ_q 31 _ rfl rfl rfl (QOp_load_eptr _ _ _ _ _ _ _ rfl Try.isAgg2 rfl rfl (intsD_get _ _ 0 (by omega))) ?_
       obtain ⟨r8, hr8, h⟩ := bindO h
       refine AQ_call 32 _ _ _ _ _ _ _ _ _ rfl rfl rfl rfl rfl rfl rfl Try.call95 rfl rfl rfl (spec_l01At_ac p0 (r1.getD x4.toNat 0) (r1.getD x2.toNat 0) _ hr8) ?_
       refine AQ_q 33 _ rfl rfl rfl (QOp_move _ _ rfl rfl) ?_
       refine AQ_q 34 _ rfl rfl rfl (QOp_neq _ _ _ _ _ _ _ rfl rfl rfl) ?_
       refine AQ_nil ?_
       refine ACode_cond _ rfl (fun hb9 => ?_) (fun hb9 => ?_)
       ·have h := iteT hb9 h
        refine ACode_seq (ACode_region ?_)
        refine AOps_q 6 _ rfl rfl rfl (QOp_assign _ _ rfl rfl) ?_
        refine AOps_nil ?_
        refine ACode_ret ?_
        obtain ⟨rr, hz12, h2⟩ := bindO h
        obtain rfl := Option.some.inj h2
        obtain rfl := Option.some.inj (show some rr = some _ from hks10)
        have h := hz12
        cases h
        have h := hks11
        cases h
        exact ⟨_, _, fun r a w h => ⟨r, h⟩, _, _, [], _, (.cons (ResV_tmp _ _ rfl) .nil), rfl, rfl, rfl, rfl, rfl⟩
       ·have h := iteF hb9 h
        refine ACode_skip ?_
        refine (ACode_region ?_)
        refine AOps_q 21 _ rfl rfl rfl (QOp_move _ _ rfl rfl) ?_
        refine AOps_q 22 _ rfl rfl rfl (QOp_add _ _ _ _ _ _ _ rfl rfl rfl) ?_
        refine AOps_q 9 _ rfl rfl rfl (QOp_assign _ _ rfl rfl) ?_
        refine AOps_nil ?_
        exact ⟨k1, _, _, Nat.lt_succ_self _, Weak_keep 0 hm [1, 3, 7, 8, 9] [0] _ _ rfl rfl rfl, _, rfl, rfl, h⟩
      ·have h := iteF hb5 h
       refine ACode_exit ?_
       cases h
       exact ⟨_, rfl, Weak_keep 0 hm [1, 3, 7, 8] [0] _ _ rfl rfl rfl⟩
    rintro E' H' ⟨s10, rfl, hw⟩
    refine ACode_weak hw ?_
    have h := hks10
    refine (ACode_region ?_)
    refine AOps_q 16 _ rfl rfl rfl (QOp_move _ _ rfl rfl) ?_
    refine AOps_q 17 _ rfl rfl rfl (QOp_add _ _ _ _ _ _ _ rfl rfl rfl) ?_
    refine AOps_q 8 _ rfl rfl rfl (QOp_assign _ _ rfl rfl) ?_
    refine AOps_nil ?_
    exact ⟨k0, _, _, Nat.lt_succ_self _, Weak_keep 0 hm [1, 3, 7, 8] [0] _ _ rfl rfl rfl, _, rfl, rfl, h⟩
   ·have h := iteF hb3 h
    refine ACode_exit ?_
    cases h
    exact ⟨_, rfl, Weak_keep 0 hm [] [] _ _ rfl rfl rfl⟩
 rintro E' H' ⟨s11, rfl, hw⟩
 refine ACode_weak hw ?_
 have h := hks11
 refine ACode_seq (ACode_region ?_)
 refine AOps_q 6 _ rfl rfl rfl (QOp_assign _ _ rfl rfl) ?_
 refine AOps_nil ?_
 refine ACode_ret ?_
 cases h
 exact ⟨_, _, fun r a w h => ⟨r, h⟩, _, _, [], _, (.cons (ResV_tmp _ _ rfl) .nil), rfl, rfl, rfl, rfl, rfl⟩

-- loop.example/g01362/spec.IsClique
def spec_IsClique (k : Nat) (p0 : Col) (p1 : Int) (p2 : List Int) : Option (Bool × Int) :=
 (spec_l01Given k p0 p1 ([])).bind fun r1 => (if !decide (r1 = 0) then some (false, r1) else (spec_l01Set k p0 p2).bind fun r3 => (if !decide (r3 = 0) then some (false, r3) else (spec_l01Bits k p2).bind fun r5 => (spec_l02Clique k p0 p1 r5).bind fun r6 => some (r6, 0)))
set_option maxRecDepth 100000 in
theorem spec_IsClique_ac (k : Nat) (p0 : Col) (p1 : Int) (p2 : List Int) (r : Bool × Int) (h : spec_IsClique k p0 p1 p2 = some r) : AC Try.prog 36 [.d (.agg (colD p0)), iV p1, .d (.sl none (intsD p2))] [] (fun res H' => res = [bV r.1, iV r.2] ∧ H' = []) := by
 refine AC_of_body true Try.func36 rfl Try.ntmps36 (rvs := [.tmp 6, .tmp 7]) rfl rfl (fun G hG => ?_)
 have hm : G.H.length = 0 := by rw [hG]; rfl
 have hz : zeroG G.H = true := by rw [hG]; rfl
 unfold spec_IsClique at h
 refine ACode_seq (ACode_region ?_)
 refine AOps_boxI 3 _ _ (.agg (colD p0)) (colD p0) rfl (colD_one _) rfl rfl rfl rfl rfl ?_
 refine AOps_q 6 _ rfl rfl rfl (QOp_assign _ _ rfl rfl) ?_
 refine AOps_q 7 _ rfl rfl rfl (QOp_assign _ _ rfl rfl) ?_
 refine AOps_nil ?_
 refine ACode_seq ?_
 refine ACode_seq (ACode_region ?_)
 refine AOps_q 10 _ rfl rfl rfl (QOp_loadN_pv _ _ _ _ _ _ rfl Try.isAgg29 Try.sizeOf29 rfl (colD_all _) (colD_length _)) ?_
 refine AOps_q 11 _ rfl rfl rfl (QOp_move _ _ rfl rfl) ?_
 obtain ⟨r1, hr1, h⟩ := bindO h
 refine AOps_call [] 12 _ _ _ _ _ _ _ _ _ _ rfl rfl rfl rfl rfl rfl rfl Try.call107 rfl (nodupB_sound _ rfl) rfl rfl rfl (spec_l01Given_ac k p0 p1 ([]) _ hr1) ?_
 rintro _ _ ⟨rfl, rfl⟩
 refine ⟨(fun _ h => nomatch h), (allc (trivial) (fun _ h => nomatch h)), AOps_as 12 (v' := iV r1) (H' := []) rfl rfl ?_⟩
 refine AOps_q 8 _ rfl rfl rfl (QOp_assign _ _ rfl rfl) ?_
 refine AOps_nil ?_
 refine ACode_seq (ACode_region ?_)
 refine AOps_q 13 _ rfl rfl rfl (QOp_move _ _ rfl rfl) ?_
 refine AOps_q 14 _ rfl rfl rfl (QOp_neq _ _ _ _ _ _ _ rfl rfl rfl) ?_
 refine AOps_nil ?_
 refine ACode_cond _ rfl (fun hb2 => ?_) (fun hb2 => ?_)
 ·have h := iteT hb2 h
  refine ACode_seq (ACode_region ?_)
  refine AOps_q 15 _ rfl rfl rfl (QOp_move _ _ rfl rfl) ?_
  refine AOps_q 6 _ rfl rfl rfl (QOp_assign _ _ rfl rfl) ?_
  refine AOps_q 7 _ rfl rfl rfl (QOp_assign _ _ rfl rfl) ?_
  refine AOps_nil ?_
  refine ACode_ret ?_
  cases h
  exact ⟨_, _, fun r a w h => ⟨r, h⟩, _, _, [], _, (.cons (ResV_tmp _ _ rfl) (.cons (ResV_tmp _ _ rfl) .nil)), rfl, rfl, rfl, rfl, rfl⟩
 ·have h := iteF hb2 h
  refine ACode_skip ?_
  refine ACode_seq ?_
  refine ACode_seq (ACode_region ?_)
  refine AOps_q 16 _ rfl rfl rfl (QOp_loadN_pv _ _ _ _ _ _ rfl Try.isAgg29 Try.sizeOf29 rfl (colD_all _) (colD_length _)) ?_
  refine AOps_q 17 _ rfl rfl rfl (QOp_move _ _ rfl rfl) ?_
  obtain ⟨r3, hr3, h⟩ := bindO h
  refine AOps_call [] 18 _ _ _ _ _ _ _ _ _ _ rfl rfl rfl rfl rfl rfl rfl Try.call122 rfl (nodupB_sound _ rfl) rfl rfl rfl (spec_l01Set_ac k p0 p2 _ hr3) ?_
  rintro _ _ ⟨rfl, rfl⟩
  refine ⟨(fun _ h => nomatch h), (allc (trivial) (fun _ h => nomatch h)), AOps_as 18 (v' := iV r3) (H' := []) rfl rfl ?_⟩
  refine AOps_q 9 _ rfl rfl rfl (QOp_assign _ _ rfl rfl) ?_
  refine AOps_nil ?_
  refine ACode_seq (ACode_region ?_)
  refine AOps_q 19 _ rfl rfl rfl (QOp_move _ _ rfl rfl) ?_
  refine AOps_q 20 _ rfl rfl rfl (QOp_neq _ _ _ _ _ _ _ rfl rfl rfl) ?_
  refine AOps_nil ?_
  refine ACode_cond _ rfl (fun hb4 => ?_) (fun hb4 => ?_)
  ·have h := iteT hb4 h
   refine ACode_seq (ACode_region ?_)
   refine AOps_q 21 _ rfl rfl rfl (QOp_move _ _ rfl rfl) ?_
   refine AOps_q 6 _ rfl rfl rfl (QOp_assign _ _ rfl rfl) ?_
   refine AOps_q 7 _ rfl rfl rfl (QOp_assign _ _ rfl rfl) ?_
   refine AOps_nil ?_
   refine ACode_ret ?_
   cases h
   exact ⟨_, _, fun r a w h => ⟨r, h⟩, _, _, [], _, (.cons (ResV_tmp _ _ rfl) (.cons (ResV_tmp _ _ rfl) .nil)), rfl, rfl, rfl, rfl, rfl⟩
  ·have h := iteF hb4 h
   refine ACode_skip ?_
   refine ACode_seq (ACode_quiet mixed (by kernel_rfl) ?_)
   refine AQ_q 22 _ rfl rfl rfl (QOp_loadN_pv _ _ _ _ _ _ rfl Try.isAgg29 Try.sizeOf29 rfl (colD_all _) (colD_length _)) ?_
   refine AQ_q 23 _ rfl rfl rfl (QOp_move _ _ rfl rfl) ?_
   refine AQ_q 24 _ rfl rfl rfl (QOp_move _ _ rfl rfl) ?_
   obtain ⟨r5, hr5, h⟩ := bindO h
   refine AQ_call 25 _ _ _ _ _ _ _ _ _ rfl rfl rfl rfl rfl rfl rfl Try.call124 rfl rfl rfl (spec_l01Bits_ac k p2 _ hr5) ?_
   obtain ⟨r6, hr6, h⟩ := bindO h
   refine AQ_call 26 _ _ _ _ _ _ _ _ _ rfl rfl rfl rfl rfl rfl rfl Try.call123 rfl rfl rfl (spec_l02Clique_ac k p0 p1 r5 _ hr6) ?_
   refine AQ_q 6 _ rfl rfl rfl (QOp_assign _ _ rfl rfl) ?_
   refine AQ_q 7 _ rfl rfl rfl (QOp_assign _ _ rfl rfl) ?_
   refine AQ_nil ?_
   refine ACode_ret ?_
   cases h
   exact ⟨_, _, fun r a w h => ⟨r, h⟩, _, _, [], _, (.cons (ResV_tmp _ _ rfl) (.cons (ResV_tmp _ _ rfl) .nil)), rfl, rfl, rfl, rfl, rfl⟩

end Go.Proofs.Ytfoijbdnkkaceaa
