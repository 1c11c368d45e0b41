/- Plain functions of the program and that the program computes them: printed by the own tool gen.py. No conditions. -/
import Derived.Test.YtldgmcghdohmeaaGreatMg35
import Derived.Test.YtldgmcghdohmeaaGreatMg24
import Derived.Test.YtldgmcghdohmeaaGreatAb27
import Derived.Test.YtldgmcghdohmeaaGreatGen42
set_option linter.unusedVariables false
set_option linter.unusedSimpArgs false
set_option maxRecDepth 100000
namespace Go.Proofs.YtldgmcghdohmeaaGreat
open Go Go.RowKit Ab

def slices_IndexFunc_R_l0 (p0 : List (List Int)) (p1 : (List Int) → Option (Bool)) : Nat → Int → Option (Sum (Unit) (Int))
 | 0, _ => none
 | k0 + 1, x1 => (if decide (x1 < (p0.length : Int)) then (if 0 ≤ x1 ∧ x1 < (p0.length : Int) then (p1 (p0.getD x1.toNat [])).bind fun r4 => (if r4 then some (.inr x1) else slices_IndexFunc_R_l0 p0 p1 k0 (w64 (x1 + 1))) else none) else some (.inl ()))
def slices_IndexFunc_R (k : Nat) (p0 : List (List Int)) (p1 : (List Int) → Option (Bool)) : Option (Int) :=
 (slices_IndexFunc_R_l0 p0 p1 k 0 : Option (Sum (Unit) (Int))).bind fun os6 => (match os6 with | .inl s6 => some (-1) | .inr rr => some rr)
theorem slices_IndexFunc_R_ac (k : Nat) (p0 : List (List Int)) (p1 : (List Int) → Option (Bool)) (g_p1 : FuncId) (c_p1 : List D) (hg_p1 : ∀ args w, (callFunc g_p1 args).run Tryz.prog w = .ok (.enter g_p1 args) w) (hf_p1 : ∀ (a0 : List Int) (r : Bool), p1 a0 = some r → AC Tryz.prog g_p1 ([.d (.sl none (intsD a0))] ++ c_p1.map AV.d) [] (fun res H' => res = [bV r] ∧ H' = [])) (r : Int) (h : slices_IndexFunc_R k p0 p1 = some r) : AC Tryz.prog 37 [.d (.sl none (rowsD p0)), .d (.clo g_p1 c_p1)] [] (fun res H' => res = [iV r] ∧ H' = []) := by
 refine AC_of_body true Tryz.func37 rfl Tryz.ntmps37 (rvs := [.tmp 4]) rfl rfl (fun G hG => ?_)
 have hm : G.H.length = 0 := by rw [hG]; rfl
 have hz : zeroG G.H = true := by rw [hG]; rfl
 unfold slices_IndexFunc_R at h
 refine kR ?_
 refine kN 1 rfl ?_
 refine kO (fun s6 => []) (fun s6 => []) h (fun os6 h hks6 => ?_) (fun s6 h => ?_)
 ·refine kR ?_
  refine kM 1 rfl ?_
  refine AOps_q 7 _ rfl rfl rfl (QOp_len_sl _ _ _ _ _ _ _ (rowsD_length _) rfl rfl rfl rfl Tryz.underlying30 rfl) ?_
  refine kN 1 rfl ?_
  refine ACode_block ?_
  refine ACode_loopW (fun k0 E H => ∃ (x1 : Int), E = [(0, .d (.sl none (rowsD p0))), (1, .d (.clo g_p1 c_p1)), (7, iV (p0.length : Int)), (8, iV x1)] ∧ H = [] ∧ slices_IndexFunc_R_l0 p0 p1 k0 x1 = some os6) k _ _ (Weak_keep 0 hm [0, 1, 7, 8] [] _ _ rfl rfl rfl) ⟨_, rfl, rfl, h⟩ ?_
  clear h
  rintro k0 E H ⟨x1, rfl, rfl, h⟩
  cases k0 with
  | zero => cases (show (none : Option (Sum (Unit) (Int))) = some _ from h)
  | succ k0 =>
   rw [slices_IndexFunc_R_l0] at h
   refine kR ?_
   refine AOps_q 9 _ rfl rfl rfl (QOp_lss _ _ _ _ _ _ _ rfl rfl rfl) ?_
   refine AOps_nil ?_
   refine ACode_seq ?_
   refine kI h rfl (fun h _ => ?_) (fun h _ => ?_)
   ·refine ACode_skip ?_
    refine ACode_seq ?_
    refine ACode_block ?_
    refine kR ?_
    refine kN 2 rfl ?_
    refine kR ?_
    refine kM 3 rfl ?_
    obtain ⟨hc3, h⟩ := guardO h
    refine AOps_q 14 _ rfl rfl rfl (QOp_indexAddr_sl _ _ _ _ _ _ _ _ rfl Tryz.underlying30 Tryz.sizeOf40 hc3.1 (by rw [rowsD_length]; exact hc3.2) rfl rfl) ?_
    refine AOps_q 15 _ rfl rfl rfl (QOp_load_pv _ _ _ _ _ rfl Tryz.isAgg40 rfl (rowsD_get _ _ [] (by omega))) ?_
    obtain ⟨r4, hr4, h⟩ := bindO h
    refine kC [] 16 (bV r4) [] rfl hg_p1 rfl (viewA_mapD _) (hf_p1 (p0.getD x1.toNat []) _ hr4) rfl ?_
    refine AOps_nil ?_
    refine kI h rfl (fun h _ => ?_) (fun h _ => ?_)
    ·refine kR ?_
     refine kN 2 rfl ?_
     refine ACode_ret ?_
     cases h
     have h := hks6
     cases h
     exact ⟨_, _, fun r a w h => ⟨r, h⟩, _, _, [], _, (.cons (ResV_tmp _ _ rfl) .nil), rfl, rfl, rfl, rfl, rfl⟩
    refine ACode_skip ?_
    refine (ACode_region ?_)
    refine AOps_q 18 _ rfl rfl rfl (QOp_add _ _ _ _ _ _ _ rfl rfl rfl) ?_
    refine kN 1 rfl ?_
    exact ⟨k0, _, _, Nat.lt_succ_self _, Weak_keep 0 hm [0, 1, 7, 8] [] _ _ rfl rfl rfl, _, rfl, rfl, h⟩
   refine ACode_exit ?_
   cases h
   exact ⟨_, rfl, Weak_keep 0 hm [] [] _ _ rfl rfl rfl⟩
 refine kR ?_
 refine kN 1 rfl ?_
 refine ACode_ret ?_
 cases h
 exact ⟨_, _, fun r a w h => ⟨r, h⟩, _, _, [], _, (.cons (ResV_tmp _ _ rfl) .nil), rfl, rfl, rfl, rfl, rfl⟩

def impl_Colouring_isMoved_c1 (p0 : Int) (p1 : Int) : Bool :=
 !decide (p0 = p1)
theorem impl_Colouring_isMoved_c1_ac (p0 : Int) (p1 : Int) : AC Tryz.prog 75 [iV p0, .d (.pv ([iD p1]) 0)] [] (fun res H' => res = [bV (impl_Colouring_isMoved_c1 p0 p1)] ∧ H' = []) := by
 refine AC_of_body true Tryz.func75 rfl Tryz.ntmps75 (rvs := [.tmp 3]) rfl rfl (fun G hG => ?_)
 have hm : G.H.length = 0 := by rw [hG]; rfl
 have hz : zeroG G.H = true := by rw [hG]; rfl
 obtain ⟨r, h⟩ : ∃ r, impl_Colouring_isMoved_c1 p0 p1 = r := ⟨_, rfl⟩
 rw [h]
 unfold impl_Colouring_isMoved_c1 at h
 refine kR ?_
 refine kN 1 rfl ?_
 refine kR ?_
 refine kM 1 rfl ?_
 refine AOps_q 5 _ rfl rfl rfl (QOp_load_pv _ _ _ _ _ rfl Tryz.isAgg2 rfl rfl) ?_
 refine AOps_q 6 _ rfl rfl rfl (QOp_neq _ _ _ _ _ _ _ rfl rfl rfl) ?_
 refine kN 1 rfl ?_
 refine ACode_ret ?_
 cases h
 exact ⟨_, _, fun r a w h => ⟨r, h⟩, _, _, [], _, (.cons (ResV_tmp _ _ rfl) .nil), rfl, rfl, rfl, rfl, rfl⟩

def impl_tracer_all_l1 (p0 : Tra) (p1n : Nat) (x4 : Int) (x5 : List Int) : Nat → Bool → Int → Option (Bool)
 | 0, _, _ => none
 | k1 + 1, x10, x11 => (if decide (x11 < ((p1n : Nat) : Int)) then ((if 0 ≤ x11 ∧ x11 < ((p1n : Nat) : Int) ∧ 0 + p1n ≤ x5.length then ((if decide ((x5.getD (0 + x11.toNat) 0) = x4) then some true else (if 0 ≤ x11 ∧ x11 < (p0.o.length : Int) then (impl_Colouring_at p0.x (p0.o.getD x11.toNat 0) (p0.o.getD ((p1n : Nat) : Int).toNat 0)).bind fun r16 => (impl_Colouring_at p0.y (x5.getD (0 + x11.toNat) 0) x4).bind fun r17 => some (!decide (r16 = r17)) else none)) : Option (Bool)).bind fun s18 => (if s18 then (some false).bind fun rr => some (.inr rr) else some (.inl ())) else none) : Option (Sum (Unit) (Bool))).bind fun os20 => (match os20 with | .inl s20 => impl_tracer_all_l1 p0 p1n x4 x5 k1 x10 (w64 (x11 + 1)) | .inr rr => some rr) else some x10)
def impl_tracer_all_l0 (k : Nat) (self : Tra → (List Int) → Nat → ((List Int) → Option (Bool)) → Option (Bool × List Int)) (p0 : Tra) (p1n : Nat) (p2 : (List Int) → Option (Bool)) : Nat → Int → (List Int) → Option (Sum (List Int) (Bool × List Int))
 | 0, _, _ => none
 | k0 + 1, x4, x5 => (if decide (x4 < p0.y.p) then ((if 0 ≤ (p0.o.getD ((p1n : Nat) : Int).toNat 0) ∧ (p0.o.getD ((p1n : Nat) : Int).toNat 0) < 17 then (if 0 ≤ x4 ∧ x4 < 17 then (if !(p0.get ((p0.o.getD ((p1n : Nat) : Int).toNat 0).toNat * 17 + x4.toNat)) then some (.inl x5) else (impl_tracer_all_l1 p0 p1n x4 x5 k true 0 : Option (Bool)).bind fun s21 => ((if s21 then (if 0 + p1n + ([x4]).length ≤ x5.length ∧ 1 ≤ ([x4]).length then (self p0 (splicedL x5 (0 + p1n) (([x4]).length) ([x4])) (p1n + ([x4]).length) p2).bind fun r24 => some (!r24.1, r24.2) else none) else some (false, x5)) : Option (Bool × List Int)).bind fun s25 => (if s25.1 then (some (.inr (false, s25.2))).bind fun rr => some (.inr rr) else some (.inl s25.2))) else none) else none) : Option (Sum (List Int) (Sum (List Int) (Bool × List Int)))).bind fun os27 => (match os27 with | .inl s27 => impl_tracer_all_l0 k self p0 p1n p2 k0 (w64 (x4 + 1)) s27 | .inr rr => some rr) else some (.inl x5))
def impl_tracer_all_body (self : Tra → (List Int) → Nat → ((List Int) → Option (Bool)) → Option (Bool × List Int)) (k : Nat) (p0 : Tra) (p1 : List Int) (p1n : Nat) (p2 : (List Int) → Option (Bool)) : Option (Bool × List Int) :=
 (if decide (((p1n : Nat) : Int) = (p0.o.length : Int)) then (p2 ((p1.drop 0).take p1n)).bind fun r2 => some (r2, p1) else (if 0 ≤ ((p1n : Nat) : Int) ∧ ((p1n : Nat) : Int) < (p0.o.length : Int) then (impl_tracer_all_l0 k self p0 p1n p2 k 0 p1 : Option (Sum (List Int) (Bool × List Int))).bind fun os28 => (match os28 with | .inl s28 => some (true, s28) | .inr rr => some rr) else none))
def impl_tracer_all : Nat → Tra → (List Int) → Nat → ((List Int) → Option (Bool)) → Option (Bool × List Int)
 | 0, _, _, _, _ => none
 | k + 1, p0, p1, p1n, p2 => impl_tracer_all_body (impl_tracer_all k) k p0 p1 p1n p2
theorem impl_tracer_all_ac (k : Nat) (p0 : Tra) (p1 : List Int) (p1n : Nat) (p2 : (List Int) → Option (Bool)) (g_p2 : FuncId) (c_p2 : List D) (hg_p2 : ∀ args w, (callFunc g_p2 args).run Tryz.prog w = .ok (.enter g_p2 args) w) (hf_p2 : ∀ (a0 : List Int) (r : Bool), p2 a0 = some r → AC Tryz.prog g_p2 ([.d (.sl none (intsD a0))] ++ c_p2.map AV.d) [] (fun res H' => res = [bV r] ∧ H' = [])) (r : Bool × List Int) (h : impl_tracer_all k p0 p1 p1n p2 = some r) : AC Tryz.prog 76 [.d (.pv (traD p0) 0), .part 0 0 0 p1n, .d (.clo g_p2 c_p2)] [.vec 0 (intsD p1)] (fun res H' => res = [bV r.1] ∧ H' = [.vec 0 (intsD r.2)]) := by
 induction k generalizing p0 p1 p1n r with
 | zero => simp [impl_tracer_all] at h
 | succ k ih =>
  rw [impl_tracer_all] at h
  obtain ⟨self, hself, hk⟩ : ∃ self : Tra → (List Int) → Nat → ((List Int) → Option (Bool)) → Option (Bool × List Int), (∀ (p0 : Tra) (p1 : List Int) (p1n : Nat) (r : Bool × List Int), self p0 p1 p1n p2 = some r → AC Tryz.prog 76 [.d (.pv (traD p0) 0), .part 0 0 0 p1n, .d (.clo g_p2 c_p2)] [.vec 0 (intsD p1)] (fun res H' => res = [bV r.1] ∧ H' = [.vec 0 (intsD r.2)])) ∧ impl_tracer_all k = self := ⟨impl_tracer_all k, fun p0 p1 p1n r h => ih p0 p1 p1n r h, rfl⟩
  rw [hk] at h
  clear ih hk
  refine AC_of_body true Tryz.func76 rfl Tryz.ntmps76 (rvs := [.tmp 6]) rfl rfl (fun G hG => ?_)
  have hm : G.H.length = 1 := by rw [hG]; rfl
  have hz : zeroG G.H = true := by rw [hG]; rfl
  unfold impl_tracer_all_body at h
  refine kR ?_
  refine kN 1 rfl ?_
  refine kR ?_
  refine kM 1 rfl ?_
  refine AOps_q 14 _ rfl rfl rfl (QOp_len_part _ _ _ _ _ _ _ _ _ _ rfl rfl rfl rfl Tryz.underlying40 rfl rfl rfl) ?_
  refine kN 1 rfl ?_
  refine ACode_seq ?_
  refine kR ?_
  refine kM 2 rfl ?_
  refine AOps_q 17 _ rfl rfl rfl (QOp_nilCheck_pv _ _ _ rfl rfl) ?_
  refine AOps_q 18 _ rfl rfl rfl (QOp_fieldAddr_pv _ _ _ _ _ 2 _ _ rfl Tryz.underlying101 rfl _ Tryz.sizeOf40 rfl rfl) ?_
  refine AOps_q 19 _ rfl rfl rfl (QOp_load_pv _ _ _ _ _ rfl Tryz.isAgg40 rfl rfl) ?_
  refine AOps_q 20 _ rfl rfl rfl (QOp_len_sl _ _ _ _ _ _ _ (intsD_length _) rfl rfl rfl rfl Tryz.underlying40 rfl) ?_
  refine AOps_q 21 _ rfl rfl rfl (QOp_eql _ _ _ _ _ _ _ rfl rfl rfl) ?_
  refine AOps_nil ?_
  refine kI h rfl (fun h _ => ?_) (fun h _ => ?_)
  ·refine kR ?_
   refine kM 2 rfl ?_
   obtain ⟨r2, hr2, h⟩ := bindO h
   refine AOps_callL [] 24 _ _ _ _ _ _ _ _ _ _ rfl rfl rfl rfl rfl rfl rfl hg_p2 rfl (nodupB_sound _ rfl) rfl rfl (viewA_mapD _) (by have q := hf_p2 ((p1.drop 0).take p1n) _ hr2; simp only [intsD_dt] at q; exact q) ?_
   rintro _ _ ⟨rfl, rfl⟩
   refine ⟨(fun _ h => nomatch h), (allc (flat_s _) (fun _ h => nomatch h)), AOps_as 24 (v' := bV r2) (H' := [.vec 0 (intsD p1)]) rfl rfl ?_⟩
   refine kN 1 rfl ?_
   refine ACode_ret ?_
   cases h
   exact ⟨_, _, fun r a w h => ⟨r, h⟩, _, _, [], _, (.cons (ResV_tmp _ _ rfl) .nil), rfl, rfl, rfl, rfl, rfl⟩
  refine ACode_skip ?_
  refine kR ?_
  refine kM 1 rfl ?_
  refine AOps_q 26 _ rfl rfl rfl (QOp_nilCheck_pv _ _ _ rfl rfl) ?_
  refine AOps_q 27 _ rfl rfl rfl (QOp_fieldAddr_pv _ _ _ _ _ 2 _ _ rfl Tryz.underlying101 rfl _ Tryz.sizeOf40 rfl rfl) ?_
  refine AOps_q 28 _ rfl rfl rfl (QOp_load_pv _ _ _ _ _ rfl Tryz.isAgg40 rfl rfl) ?_
  refine kM 1 rfl ?_
  obtain ⟨hc3, h⟩ := guardO h
  refine AOps_q 30 _ rfl rfl rfl (QOp_indexAddr_sl _ _ _ _ _ _ _ _ rfl Tryz.underlying40 Tryz.sizeOf2 hc3.1 (by rw [intsD_length]; exact hc3.2) rfl rfl) ?_
  refine AOps_q 31 _ rfl rfl rfl (QOp_load_pv _ _ _ _ _ rfl Tryz.isAgg2 rfl (intsD_get _ _ 0 (by omega))) ?_
  refine kN 1 rfl ?_
  refine kO (fun s28 => []) (fun s28 => [.vec 0 (intsD s28)]) h (fun os28 h hks28 => ?_) (fun s28 h => ?_)
  ·refine kR ?_
   refine kM 1 rfl ?_
   refine AOps_q 33 _ rfl rfl rfl (QOp_nilCheck_pv _ _ _ rfl rfl) ?_
   refine AOps_q 34 _ rfl rfl rfl (QOp_fieldAddr_pv _ _ _ _ _ 1 _ _ rfl Tryz.underlying101 rfl _ Tryz.sizeOf66 rfl rfl) ?_
   refine AOps_q 35 _ rfl rfl rfl (QOp_load_pv _ _ _ _ _ rfl Tryz.isAgg66 rfl rfl) ?_
   refine AOps_q 36 _ rfl rfl rfl (QOp_nilCheck_pv _ _ _ rfl rfl) ?_
   refine AOps_q 37 _ rfl rfl rfl (QOp_fieldAddr_pv _ _ _ _ _ 0 _ _ rfl Tryz.underlying26 rfl _ Tryz.sizeOf2 rfl rfl) ?_
   refine AOps_q 38 _ rfl rfl rfl (QOp_load_pv _ _ _ _ _ rfl Tryz.isAgg2 rfl rfl) ?_
   refine kN 1 rfl ?_
   refine ACode_block ?_
   refine ACode_loopW (fun k0 E H => ∃ (x4 : Int) (x5 : List Int), E = [(0, .d (.pv (traD p0) 0)), (1, .part 0 0 0 p1n), (2, .d (.clo g_p2 c_p2)), (8, iV (p0.o.getD ((p1n : Nat) : Int).toNat 0)), (38, iV p0.y.p), (39, iV x4)] ∧ H = [.vec 0 (intsD x5)] ∧ impl_tracer_all_l0 k self p0 p1n p2 k0 x4 x5 = some os28) k _ _ (Weak_keep 1 hm [0, 1, 2, 8, 38, 39] [] _ _ rfl rfl rfl) ⟨_, _, rfl, rfl, h⟩ ?_
   clear h
   rintro k0 E H ⟨x4, x5, rfl, rfl, h⟩
   cases k0 with
   | zero => cases (show (none : Option (Sum (List Int) (Bool × List Int))) = some _ from h)
   | succ k0 =>
    rw [impl_tracer_all_l0] at h
    refine kR ?_
    refine AOps_q 40 _ rfl rfl rfl (QOp_lss _ _ _ _ _ _ _ rfl rfl rfl) ?_
    refine AOps_nil ?_
    refine ACode_seq ?_
    refine kI h rfl (fun h _ => ?_) (fun h _ => ?_)
    ·refine ACode_skip ?_
     refine kO (fun s27 => [(0, .d (.pv (traD p0) 0)), (1, .part 0 0 0 p1n), (2, .d (.clo g_p2 c_p2)), (8, iV (p0.o.getD ((p1n : Nat) : Int).toNat 0)), (38, iV p0.y.p), (39, iV x4)]) (fun s27 => [.vec 0 (intsD s27)]) h (fun os27 h hks27 => ?_) (fun s27 h => ?_)
     ·refine ACode_block ?_
      refine kR ?_
      refine kN 2 rfl ?_
      refine ACode_seq ?_
      refine kR ?_
      refine kM 3 rfl ?_
      refine AOps_q 45 _ rfl rfl rfl (QOp_nilCheck_pv _ _ _ rfl rfl) ?_
      refine AOps_q 46 _ rfl rfl rfl (QOp_fieldAddr_pv _ _ _ _ _ 3 _ _ rfl Tryz.underlying101 rfl _ Tryz.sizeOf99 rfl rfl) ?_
      obtain ⟨hc7, h⟩ := guardO h
      refine AOps_q 47 _ rfl rfl rfl (QOp_indexAddrM_pv _ _ _ _ _ _ _ _ _ _ rfl Tryz.underlying99 Tryz.sizeOf98 hc7.1 hc7.2 rfl rfl) ?_
      obtain ⟨hc8, h⟩ := guardO h
      refine AOps_q 48 _ rfl rfl rfl (QOp_indexAddrA_pv _ _ _ _ _ _ _ _ _ rfl Tryz.underlying98 Tryz.sizeOf4 hc8.1 hc8.2 rfl rfl) ?_
      refine AOps_q 49 _ rfl rfl rfl (QOp_load_pv _ _ _ _ _ rfl Tryz.isAgg4 rfl (traD_get2 _ _ _ (by omega))) ?_
      refine AOps_q 50 _ rfl rfl rfl (QOp_not _ _ _ rfl rfl) ?_
      refine AOps_nil ?_
      refine kI h rfl (fun h _ => ?_) (fun h _ => ?_)
      ·refine ACode_exit ?_
       cases h
       exact ⟨_, rfl, Weak_keep 1 hm [0, 1, 2, 8, 38, 39] [] _ _ rfl rfl rfl⟩
      refine ACode_skip ?_
      refine kR ?_
      refine kN 1 rfl ?_
      refine kB (fun s21 => [(0, .d (.pv (traD p0) 0)), (1, .part 0 0 0 p1n), (2, .d (.clo g_p2 c_p2)), (8, iV (p0.o.getD ((p1n : Nat) : Int).toNat 0)), (9, iV x4), (10, bV s21), (38, iV p0.y.p), (39, iV x4)]) (fun s21 => [.vec 0 (intsD x5)]) h (fun s21 h => ?_) (fun s21 h => ?_)
      ·refine kR ?_
       refine kM 1 rfl ?_
       refine AOps_q 52 _ rfl rfl rfl (QOp_len_part _ _ _ _ _ _ _ _ _ _ rfl rfl rfl rfl Tryz.underlying40 rfl rfl rfl) ?_
       refine kN 1 rfl ?_
       refine ACode_block ?_
       refine ACode_loopW (fun k1 E H => ∃ (x10 : Bool) (x11 : Int), E = [(0, .d (.pv (traD p0) 0)), (1, .part 0 0 0 p1n), (2, .d (.clo g_p2 c_p2)), (8, iV (p0.o.getD ((p1n : Nat) : Int).toNat 0)), (9, iV x4), (10, bV x10), (38, iV p0.y.p), (39, iV x4), (51, .part 0 0 0 p1n), (52, iV ((p1n : Nat) : Int)), (53, iV x11)] ∧ H = [.vec 0 (intsD x5)] ∧ impl_tracer_all_l1 p0 p1n x4 x5 k1 x10 x11 = some s21) k _ _ (Weak_keep 1 hm [0, 1, 2, 8, 9, 10, 38, 39, 51, 52, 53] [] _ _ rfl rfl rfl) ⟨_, _, rfl, rfl, h⟩ ?_
       clear h
       rintro k1 E H ⟨x10, x11, rfl, rfl, h⟩
       cases k1 with
       | zero => cases (show (none : Option (Bool)) = some _ from h)
       | succ k1 =>
        rw [impl_tracer_all_l1] at h
        refine kR ?_
        refine AOps_q 54 _ rfl rfl rfl (QOp_lss _ _ _ _ _ _ _ rfl rfl rfl) ?_
        refine AOps_nil ?_
        refine ACode_seq ?_
        refine kI h rfl (fun h _ => ?_) (fun h _ => ?_)
        ·refine ACode_skip ?_
         refine kO (fun s20 => [(0, .d (.pv (traD p0) 0)), (1, .part 0 0 0 p1n), (2, .d (.clo g_p2 c_p2)), (8, iV (p0.o.getD ((p1n : Nat) : Int).toNat 0)), (9, iV x4), (10, bV x10), (38, iV p0.y.p), (39, iV x4), (51, .part 0 0 0 p1n), (52, iV ((p1n : Nat) : Int)), (53, iV x11)]) (fun s20 => [.vec 0 (intsD x5)]) h (fun os20 h hks20 => ?_) (fun s20 h => ?_)
         ·refine ACode_block ?_
          refine kR ?_
          refine kM 1 rfl ?_
          obtain ⟨hc13, h⟩ := guardO h
          refine AOps_q 56 _ rfl rfl rfl (QOp_indexAddr_part _ _ _ _ _ _ _ _ _ _ _ _ rfl Tryz.underlying40 Tryz.sizeOf2 hc13.1 hc13.2.1 rfl rfl rfl rfl) ?_
          refine AOps_q 57 _ rfl rfl rfl (QOp_load_eptr _ _ _ _ _ _ _ rfl Tryz.isAgg2 rfl rfl (intsD_get _ _ 0 (by omega))) ?_
          refine kN 2 rfl ?_
          refine kB (fun s18 => [(0, .d (.pv (traD p0) 0)), (1, .part 0 0 0 p1n), (2, .d (.clo g_p2 c_p2)), (8, iV (p0.o.getD ((p1n : Nat) : Int).toNat 0)), (9, iV x4), (10, bV x10), (38, iV p0.y.p), (39, iV x4), (51, .part 0 0 0 p1n), (52, iV ((p1n : Nat) : Int)), (53, iV x11), (83, bV s18)]) (fun s18 => [.vec 0 (intsD x5)]) h (fun s18 h => ?_) (fun s18 h => ?_)
          ·refine (ACode_quiet mixed (by kernel_rfl) ?_)
           refine kQ 2 rfl ?_
           refine AQ_q 60 _ rfl rfl rfl (QOp_eql _ _ _ _ _ _ _ rfl rfl rfl) ?_
           refine kQ 1 rfl ?_
           refine AQ_case 61 _ rfl (fun hb14 => ?_) (fun hb14 => ?_)
           ·have h := iteT hb14 h
            refine AQ_skip 62 rfl rfl rfl ?_
            refine AQ_skip 63 rfl rfl rfl ?_
            refine AQ_skip 64 rfl rfl rfl ?_
            refine AQ_skip 65 rfl rfl rfl ?_
            refine AQ_skip 66 rfl rfl rfl ?_
            refine AQ_skip 67 rfl rfl rfl ?_
            refine AQ_skip 68 rfl rfl rfl ?_
            refine AQ_skip 69 rfl rfl rfl ?_
            refine AQ_skip 70 rfl rfl rfl ?_
            refine AQ_skip 71 rfl rfl rfl ?_
            refine AQ_skip 72 rfl rfl rfl ?_
            refine AQ_skip 73 rfl rfl rfl ?_
            refine AQ_skip 74 rfl rfl rfl ?_
            refine AQ_skip 75 rfl rfl rfl ?_
            refine AQ_skip 76 rfl rfl rfl ?_
            refine AQ_skip 77 rfl rfl rfl ?_
            refine AQ_skip 78 rfl rfl rfl ?_
            refine AQ_skip 79 rfl rfl rfl ?_
            refine AQ_skip 80 rfl rfl rfl ?_
            refine AQ_skip 81 rfl rfl rfl ?_
            refine AQ_skip 82 rfl rfl rfl ?_
            refine kQ 1 rfl ?_
            refine AQ_nil ?_
            cases h
            exact Weak_keep 1 hm [0, 1, 2, 8, 9, 10, 38, 39, 51, 52, 53, 83] [] _ _ rfl rfl rfl
           have h := iteF hb14 h
           refine kQ 1 rfl ?_
           refine AQ_q 63 _ rfl rfl rfl (QOp_nilCheck_pv _ _ _ rfl rfl) ?_
           refine AQ_q 64 _ rfl rfl rfl (QOp_fieldAddr_pv _ _ _ _ _ 0 _ _ rfl Tryz.underlying101 rfl _ Tryz.sizeOf66 rfl rfl) ?_
           refine AQ_q 65 _ rfl rfl rfl (QOp_load_pv _ _ _ _ _ rfl Tryz.isAgg66 rfl rfl) ?_
           refine kQ 1 rfl ?_
           refine AQ_q 67 _ rfl rfl rfl (QOp_nilCheck_pv _ _ _ rfl rfl) ?_
           refine AQ_q 68 _ rfl rfl rfl (QOp_fieldAddr_pv _ _ _ _ _ 2 _ _ rfl Tryz.underlying101 rfl _ Tryz.sizeOf40 rfl rfl) ?_
           refine AQ_q 69 _ rfl rfl rfl (QOp_load_pv _ _ _ _ _ rfl Tryz.isAgg40 rfl rfl) ?_
           refine kQ 1 rfl ?_
           obtain ⟨hc15, h⟩ := guardO h
           refine AQ_q 71 _ rfl rfl rfl (QOp_indexAddr_sl _ _ _ _ _ _ _ _ rfl Tryz.underlying40 Tryz.sizeOf2 hc15.1 (by rw [intsD_length]; exact hc15.2) rfl rfl) ?_
           refine AQ_q 72 _ rfl rfl rfl (QOp_load_pv _ _ _ _ _ rfl Tryz.isAgg2 rfl (intsD_get _ _ 0 (by omega))) ?_
           refine kQ 1 rfl ?_
           obtain ⟨r16, hr16, h⟩ := bindO h
           refine AQ_call 74 _ _ _ _ _ _ _ _ _ rfl rfl rfl rfl rfl rfl rfl Tryz.call67 rfl rfl rfl (impl_Colouring_at_ac p0.x (p0.o.getD x11.toNat 0) (p0.o.getD ((p1n : Nat) : Int).toNat 0) _ hr16) ?_
           refine kQ 1 rfl ?_
           refine AQ_q 76 _ rfl rfl rfl (QOp_nilCheck_pv _ _ _ rfl rfl) ?_
           refine AQ_q 77 _ rfl rfl rfl (QOp_fieldAddr_pv _ _ _ _ _ 1 _ _ rfl Tryz.underlying101 rfl _ Tryz.sizeOf66 rfl rfl) ?_
           refine AQ_q 78 _ rfl rfl rfl (QOp_load_pv _ _ _ _ _ rfl Tryz.isAgg66 rfl rfl) ?_
           refine kQ 2 rfl ?_
           obtain ⟨r17, hr17, h⟩ := bindO h
           refine AQ_call 81 _ _ _ _ _ _ _ _ _ rfl rfl rfl rfl rfl rfl rfl Tryz.call67 rfl rfl rfl (impl_Colouring_at_ac p0.y (x5.getD (0 + x11.toNat) 0) x4 _ hr17) ?_
           refine AQ_q 82 _ rfl rfl rfl (QOp_neq _ _ _ _ _ _ _ rfl rfl rfl) ?_
           refine kQ 1 rfl ?_
           refine AQ_nil ?_
           cases h
           exact Weak_keep 1 hm [0, 1, 2, 8, 9, 10, 38, 39, 51, 52, 53, 83] [] _ _ rfl rfl rfl
          refine kI h rfl (fun h _ => ?_) (fun h _ => ?_)
          ·refine kR ?_
           refine kN 1 rfl ?_
           refine ACode_exit ?_
           obtain ⟨rr, hz29, h2⟩ := bindO h
           obtain rfl := Option.some.inj h2
           obtain rfl := Option.some.inj (show some rr = some _ from hks20)
           have h := hz29
           cases h
           exact Weak_keep 1 hm [0, 1, 2, 8, 9, 10, 38, 39] [] _ _ rfl rfl rfl
          refine ACode_skip ?_
          cases h
          exact ⟨_, rfl, Weak_keep 1 hm [0, 1, 2, 8, 9, 10, 38, 39, 51, 52, 53] [] _ _ rfl rfl rfl⟩
         refine (ACode_region ?_)
         refine AOps_q 84 _ rfl rfl rfl (QOp_add _ _ _ _ _ _ _ rfl rfl rfl) ?_
         refine kN 1 rfl ?_
         exact ⟨k1, _, _, Nat.lt_succ_self _, Weak_keep 1 hm [0, 1, 2, 8, 9, 10, 38, 39, 51, 52, 53] [] _ _ rfl rfl rfl, _, _, rfl, rfl, h⟩
        refine ACode_exit ?_
        cases h
        exact Weak_keep 1 hm [0, 1, 2, 8, 9, 10, 38, 39] [] _ _ rfl rfl rfl
      refine kB (fun s25 => [(0, .d (.pv (traD p0) 0)), (1, .part 0 0 0 p1n), (2, .d (.clo g_p2 c_p2)), (8, iV (p0.o.getD ((p1n : Nat) : Int).toNat 0)), (38, iV p0.y.p), (39, iV x4), (95, bV s25.1)]) (fun s25 => [.vec 0 (intsD s25.2)]) h (fun s25 h => ?_) (fun s25 h => ?_)
      ·refine (ACode_region ?_)
       refine kM 2 rfl ?_
       refine AOps_case 86 _ rfl (fun hb22 => ?_) (fun hb22 => ?_)
       ·have h := iteT hb22 h
        refine kM 3 rfl ?_
        refine AOps_buildSlice 90 _ _ _ [_] (intsD ([x4])) _ rfl rfl rfl rfl rfl (by decide) Tryz.underlying40 Tryz.sizeOf2 (zero_of Tryz.typeInfo2 rfl) rfl rfl (intsD_one _) ?_
        obtain ⟨hc23, h⟩ := guardO h
        refine AOps_append_part 91 _ _ _ _ _ 0 0 0 p1n (p1n + ([x4]).length) _ (intsD x5) (intsD ([x4])) _ rfl rfl rfl rfl rfl rfl rfl Tryz.underlying40 Tryz.type2 rfl rfl rfl rfl rfl (intsD_one _) (by rw [intsD_length]; exact hc23.2) (by rw [intsD_length, intsD_length]; exact hc23.1) (by rw [intsD_length]) ?_
        rw [intsD_length, intsD_spl]
        refine kM 1 rfl ?_
        obtain ⟨r24, hr24, h⟩ := bindO h
        refine kC [0] 93 (bV r24.1) [.vec 0 (intsD r24.2), .vec 0 (intsD ([x4]))] rfl Tryz.call76 rfl rfl (hself p0 (splicedL x5 (0 + p1n) (([x4]).length) ([x4])) (p1n + ([x4]).length) _ hr24) rfl ?_
        refine AOps_q 94 _ rfl rfl rfl (QOp_not _ _ _ rfl rfl) ?_
        refine kN 1 rfl ?_
        cases h
        exact Weak_keep 1 hm [0, 1, 2, 8, 38, 39, 95] [] _ _ rfl rfl rfl
       have h := iteF hb22 h
       refine AOps_skip 87 rfl rfl rfl ?_
       refine AOps_skip 88 rfl rfl rfl ?_
       refine AOps_skip 89 rfl rfl rfl ?_
       refine AOps_skip 90 rfl rfl rfl ?_
       refine AOps_skip 91 rfl rfl rfl ?_
       refine AOps_skip 92 rfl rfl rfl ?_
       refine AOps_skip 93 rfl rfl rfl ?_
       refine AOps_skip 94 rfl rfl rfl ?_
       refine kN 1 rfl ?_
       cases h
       exact Weak_keep 1 hm [0, 1, 2, 8, 38, 39, 95] [] _ _ rfl rfl rfl
      refine kI h rfl (fun h _ => ?_) (fun h _ => ?_)
      ·refine kR ?_
       refine kN 1 rfl ?_
       refine ACode_ret ?_
       obtain ⟨rr, hz30, h2⟩ := bindO h
       obtain rfl := Option.some.inj h2
       obtain rfl := Option.some.inj (show some rr = some _ from hks27)
       have h := hz30
       cases h
       have h := hks28
       cases h
       exact ⟨_, _, fun r a w h => ⟨r, h⟩, _, _, [], _, (.cons (ResV_tmp _ _ rfl) .nil), rfl, rfl, rfl, rfl, rfl⟩
      refine ACode_skip ?_
      cases h
      exact ⟨_, rfl, Weak_keep 1 hm [0, 1, 2, 8, 38, 39] [] _ _ rfl rfl rfl⟩
     refine (ACode_region ?_)
     refine AOps_q 96 _ rfl rfl rfl (QOp_add _ _ _ _ _ _ _ rfl rfl rfl) ?_
     refine kN 1 rfl ?_
     exact ⟨k0, _, _, Nat.lt_succ_self _, Weak_keep 1 hm [0, 1, 2, 8, 38, 39] [] _ _ rfl rfl rfl, _, _, rfl, rfl, h⟩
    refine ACode_exit ?_
    cases h
    exact ⟨_, rfl, Weak_keep 1 hm [] [] _ _ rfl rfl rfl⟩
  refine kR ?_
  refine kN 1 rfl ?_
  refine ACode_ret ?_
  cases h
  exact ⟨_, _, fun r a w h => ⟨r, h⟩, _, _, [], _, (.cons (ResV_tmp _ _ rfl) .nil), rfl, rfl, rfl, rfl, rfl⟩

def impl_Colouring_isMoved_c2_nb (p0 : List Int) : Bool :=
 false
theorem impl_Colouring_isMoved_c2_nb_ac (p0 : List Int) : AC Tryz.prog 77 [.d (.sl none (intsD p0))] [] (fun res H' => res = [bV (impl_Colouring_isMoved_c2_nb p0)] ∧ H' = []) := by
 refine AC_of_body true Tryz.func77 rfl Tryz.ntmps77 (rvs := [.tmp 2]) rfl rfl (fun G hG => ?_)
 have hm : G.H.length = 0 := by rw [hG]; rfl
 have hz : zeroG G.H = true := by rw [hG]; rfl
 obtain ⟨r, h⟩ : ∃ r, impl_Colouring_isMoved_c2_nb p0 = r := ⟨_, rfl⟩
 rw [h]
 unfold impl_Colouring_isMoved_c2_nb at h
 refine kR ?_
 refine kN 1 rfl ?_
 refine kR ?_
 refine kN 1 rfl ?_
 refine ACode_ret ?_
 cases h
 exact ⟨_, _, fun r a w h => ⟨r, h⟩, _, _, [], _, (.cons (ResV_tmp _ _ rfl) .nil), rfl, rfl, rfl, rfl, rfl⟩

def impl_Colouring_isMoved (k : Nat) (p0 : Col) (p1 : Int) (p2 : Int) : Option (Bool) :=
 (impl_Colouring_that k p0 (fun a0 => some (impl_Colouring_isMoved_c1 a0 p1))).bind fun r1 => (if ([p1]).length + r1.length ≤ 1099511627776 then ((fun k a b c => joinO (impl_newTracer k a b c)) k p0 p0 (([p1]) ++ r1)).bind fun r3 => (if 0 ≤ p1 ∧ p1 < 17 then (if 0 ≤ p2 ∧ p2 < 17 then (if !(r3.get (p1.toNat * 17 + p2.toNat)) then some false else (if 0 + 0 + ([p2]).length ≤ (List.replicate 17 (0 : Int)).length ∧ 1 ≤ ([p2]).length then (impl_tracer_all k r3 (splicedL (List.replicate 17 (0 : Int)) (0 + 0) (([p2]).length) ([p2])) (0 + ([p2]).length) (fun a0 => some (impl_Colouring_isMoved_c2_nb a0))).bind fun r9 => some (!r9.1) else none)) else none) else none) else none)
theorem impl_Colouring_isMoved_ac (k : Nat) (p0 : Col) (p1 : Int) (p2 : Int) (r : Bool) (h : impl_Colouring_isMoved k p0 p1 p2 = some r) : AC Tryz.prog 39 [.d (.pv (colD p0) 0), iV p1, iV p2] [] (fun res H' => res = [bV r] ∧ H' = []) := by
 refine AC_of_body true Tryz.func39 rfl Tryz.ntmps39 (rvs := [.tmp 6]) rfl rfl (fun G hG => ?_)
 have hm : G.H.length = 0 := by rw [hG]; rfl
 have hz : zeroG G.H = true := by rw [hG]; rfl
 unfold impl_Colouring_isMoved at h
 refine kR ?_
 refine AOps_boxI 4 _ _ (iD p1) _ rfl (fun c hc => by cases hc with | head => rfl | tail _ h => cases h) rfl rfl rfl rfl rfl ?_
 refine kN 1 rfl ?_
 obtain ⟨r1, hr1, h⟩ := bindO h
 obtain ⟨hc2, h⟩ := guardO h
 obtain ⟨r3, hr3, h⟩ := bindO h
 refine ACode_seq (ACode_reg [(2, iV p2), (4, .d (.pv ([iD p1]) 0)), (7, .d (.pv (traD r3) 0))] [] ?_ ?_)
 ·refine ACode_anyU mixed ?_
  refine AU_cut 3 #[true, true, true, true, true, true, true, false, false, false] [(2, iV p2), (4, .d (.pv ([iD p1]) 0)), (9, .d (.pv (colD p0) 0)), (10, .d (.pv (colD p0) 0)), (12, .vec 0 0), (15, .vec 1 0)] [.vec 0 (intsD ([p1])), .vec 0 (intsD r1)] ?_ (fun hS0 => ?_)
  ·refine AU_one 7 (by kernel_rfl) rfl rfl ?_
   refine AOps_append 16 _ _ _ _ _ _ _ _ _ _ _ _ rfl rfl rfl rfl rfl rfl rfl Tryz.underlying40 Tryz.type2 rfl rfl rfl (by decide) rfl rfl rfl rfl (intsD_one _) (by rw [intsD_length, intsD_length]; exact hc2) ?_
   rw [intsD_app]
   refine AOps_nil ?_
   refine AU_one 8 (by kernel_rfl) rfl rfl ?_
   refine AOps_freezeL [16] 0 1 _ (allc (rfl) (fun _ h => nomatch h)) rfl ?_
   refine kC [] 17 (.d (.pv (traD r3) 0)) [.gone, .vec 0 (intsD r1)] rfl Tryz.call73 rfl rfl (impl_newTracer_ac k p0 p0 (([p1]) ++ r1) _ (joinO_some hr3)) rfl ?_
   refine AOps_nil ?_
   refine AU_u 9 7 _ rfl (by kernel_rfl) rfl rfl rfl (UOp_assign _ _ rfl rfl) ?_
   refine AU_done (by kernel_rfl) ?_
   exact ⟨rfl, Weak_keep 0 hm [2, 4, 7] [] _ _ rfl rfl rfl⟩
  refine AU_cut 4 #[true, true, true, false, true, true, true, false, false, false] [(2, iV p2), (4, .d (.pv ([iD p1]) 0)), (9, .d (.pv (colD p0) 0)), (10, .d (.pv (colD p0) 0)), (11, iV p1), (15, .vec 0 0)] [.vec 0 (intsD r1)] ?_ (fun hS1 => ?_)
  ·refine AU_one 3 (by kernel_rfl) rfl rfl ?_
   refine AOps_buildSlice 12 _ _ _ [_] (intsD ([p1])) _ rfl rfl rfl rfl rfl (by decide) Tryz.underlying40 Tryz.sizeOf2 (zero_of Tryz.typeInfo2 rfl) rfl rfl (intsD_one _) ?_
   refine AOps_nil ?_
   exact AU_to (by kernel_rfl) hS0 (Weak_keep 0 hm [2, 4, 9, 10, 12, 15] [1, 0] _ _ rfl rfl rfl)
  refine AU_u 0 9 _ rfl (by kernel_rfl) rfl rfl rfl (UOp_move _ _ rfl rfl) ?_
  refine AU_u 1 10 _ rfl (by kernel_rfl) rfl rfl rfl (UOp_move _ _ rfl rfl) ?_
  refine AU_u 4 13 _ rfl (by kernel_rfl) rfl rfl rfl (UOp_move _ _ rfl rfl) ?_
  refine AU_u 5 14 _ rfl (by kernel_rfl) rfl rfl rfl (UOp_makeFuncD _ _ _ _ rfl rfl rfl) ?_
  refine AU_all [2, 6] (by kernel_rfl) rfl (allc ?_ (allc ?_ (fun _ h => nomatch h)))
  ·refine US_of 2 rfl rfl ?_
   refine AOps_q 11 _ rfl rfl rfl (QOp_load_pv _ _ _ _ _ rfl Tryz.isAgg2 rfl rfl) ?_
   refine AOps_nil ?_
   refine AU_all [3, 6] (by kernel_rfl) rfl (allc ?_ (allc ?_ (fun _ h => nomatch h)))
   ·refine US_of 3 rfl rfl ?_
    refine AOps_buildSlice 12 _ _ _ [_] (intsD ([p1])) _ rfl rfl rfl rfl rfl (by decide) Tryz.underlying40 Tryz.sizeOf2 (zero_of Tryz.typeInfo2 rfl) rfl rfl (intsD_one _) ?_
    refine AOps_nil ?_
    refine AU_one 6 (by kernel_rfl) rfl rfl ?_
    refine kC [] 15 (.vec 1 0) [.vec 0 (intsD ([p1])), .vec 0 (intsD r1)] rfl Tryz.call74 rfl rfl (impl_Colouring_that_ac k p0 (fun a0 => some (impl_Colouring_isMoved_c1 a0 p1)) 75 ([.pv ([iD p1]) 0]) Tryz.call75 (fun a0 r h => by cases h; exact impl_Colouring_isMoved_c1_ac a0 p1) _ hr1) rfl ?_
    refine AOps_nil ?_
    exact AU_to (by kernel_rfl) hS0 (Weak_keep 0 hm [2, 4, 9, 10, 12, 15] [0, 1] _ _ rfl rfl rfl)
   refine US_of 6 rfl rfl ?_
   refine kC [] 15 (.vec 0 0) [.vec 0 (intsD r1)] rfl Tryz.call74 rfl rfl (impl_Colouring_that_ac k p0 (fun a0 => some (impl_Colouring_isMoved_c1 a0 p1)) 75 ([.pv ([iD p1]) 0]) Tryz.call75 (fun a0 r h => by cases h; exact impl_Colouring_isMoved_c1_ac a0 p1) _ hr1) rfl ?_
   refine AOps_nil ?_
   exact AU_to (by kernel_rfl) hS1 (Weak_keep 0 hm [2, 4, 9, 10, 11, 15] [0] _ _ rfl rfl rfl)
  refine US_of 6 rfl rfl ?_
  refine kC [] 15 (.vec 0 0) [.vec 0 (intsD r1)] rfl Tryz.call74 rfl rfl (impl_Colouring_that_ac k p0 (fun a0 => some (impl_Colouring_isMoved_c1 a0 p1)) 75 ([.pv ([iD p1]) 0]) Tryz.call75 (fun a0 r h => by cases h; exact impl_Colouring_isMoved_c1_ac a0 p1) _ hr1) rfl ?_
  refine AOps_nil ?_
  refine AU_one 2 (by kernel_rfl) rfl rfl ?_
  refine AOps_q 11 _ rfl rfl rfl (QOp_load_pv _ _ _ _ _ rfl Tryz.isAgg2 rfl rfl) ?_
  refine AOps_nil ?_
  exact AU_to (by kernel_rfl) hS1 (Weak_keep 0 hm [2, 4, 9, 10, 11, 15] [0] _ _ rfl rfl rfl)
 refine ACode_seq ?_
 refine ACode_seq (ACode_quiet mixed (by kernel_rfl) ?_)
 refine kQ 1 rfl ?_
 refine AQ_q 19 _ rfl rfl rfl (QOp_load_pv _ _ _ _ _ rfl Tryz.isAgg2 rfl rfl) ?_
 refine kQ 1 rfl ?_
 refine AQ_q 21 _ rfl rfl rfl (QOp_nilCheck_pv _ _ _ rfl rfl) ?_
 refine AQ_q 22 _ rfl rfl rfl (QOp_fieldAddr_pv _ _ _ _ _ 3 _ _ rfl Tryz.underlying101 rfl _ Tryz.sizeOf99 rfl rfl) ?_
 obtain ⟨hc4, h⟩ := guardO h
 refine AQ_q 23 _ rfl rfl rfl (QOp_indexAddrM_pv _ _ _ _ _ _ _ _ _ _ rfl Tryz.underlying99 Tryz.sizeOf98 hc4.1 hc4.2 rfl rfl) ?_
 obtain ⟨hc5, h⟩ := guardO h
 refine AQ_q 24 _ rfl rfl rfl (QOp_indexAddrA_pv _ _ _ _ _ _ _ _ _ rfl Tryz.underlying98 Tryz.sizeOf4 hc5.1 hc5.2 rfl rfl) ?_
 refine AQ_q 25 _ rfl rfl rfl (QOp_load_pv _ _ _ _ _ rfl Tryz.isAgg4 rfl (traD_get2 _ _ _ (by omega))) ?_
 refine AQ_q 26 _ rfl rfl rfl (QOp_not _ _ _ rfl rfl) ?_
 refine AQ_nil ?_
 refine kI h rfl (fun h _ => ?_) (fun h _ => ?_)
 ·refine kR ?_
  refine kN 1 rfl ?_
  refine ACode_ret ?_
  cases h
  exact ⟨_, _, fun r a w h => ⟨r, h⟩, _, _, [], _, (.cons (ResV_tmp _ _ rfl) .nil), rfl, rfl, rfl, rfl, rfl⟩
 refine ACode_skip ?_
 refine kR ?_
 refine AOps_makeBufG intsD iD 0 (intsD_rep · _) 27 _ _ _ _ _ _ 17 _ (.int .i64 0) rfl rfl rfl rfl rfl rfl Tryz.underlying40 Tryz.type2 rfl rfl (by decide) rfl rfl (by decide) ?_
 refine kN 1 rfl ?_
 refine kR ?_
 refine kM 3 rfl ?_
 refine AOps_buildSlice 31 _ _ _ [_] (intsD ([p2])) _ rfl rfl rfl rfl rfl (by decide) Tryz.underlying40 Tryz.sizeOf2 (zero_of Tryz.typeInfo2 rfl) rfl rfl (intsD_one _) ?_
 obtain ⟨hc8, h⟩ := guardO h
 refine AOps_append_part 32 _ _ _ _ _ 0 0 0 0 (0 + ([p2]).length) _ (intsD (List.replicate 17 (0 : Int))) (intsD ([p2])) _ rfl rfl rfl rfl rfl rfl rfl Tryz.underlying40 Tryz.type2 rfl rfl rfl rfl rfl (intsD_one _) (by rw [intsD_length]; exact hc8.2) (by rw [intsD_length, intsD_length]; exact hc8.1) (by rw [intsD_length]) ?_
 rw [intsD_length, intsD_spl]
 obtain ⟨r9, hr9, h⟩ := bindO h
 refine kC [0] 33 (bV r9.1) [.vec 0 (intsD r9.2), .vec 0 (intsD ([p2]))] rfl Tryz.call76 rfl rfl (impl_tracer_all_ac k r3 (splicedL (List.replicate 17 (0 : Int)) (0 + 0) (([p2]).length) ([p2])) (0 + ([p2]).length) (fun a0 => some (impl_Colouring_isMoved_c2_nb a0)) 77 ([]) Tryz.call77 (fun a0 r h => by cases h; exact impl_Colouring_isMoved_c2_nb_ac a0) _ hr9) rfl ?_
 refine AOps_q 34 _ rfl rfl rfl (QOp_not _ _ _ rfl rfl) ?_
 refine kN 1 rfl ?_
 refine ACode_ret ?_
 cases h
 exact ⟨_, _, fun r a w h => ⟨r, h⟩, _, _, [], _, (.cons (ResV_tmp _ _ rfl) .nil), rfl, rfl, rfl, rfl, rfl⟩

def impl_PointOrbits_c1 (k : Nat) (p0 : List Int) (p1 : Col) (p2 : Int) : Option (Bool) :=
 (if 0 ≤ (0 : Int) ∧ (0 : Int) < (p0.length : Int) then (impl_Colouring_isMoved k p1 (p0.getD (0 : Int).toNat 0) p2).bind fun r2 => some r2 else none)
theorem impl_PointOrbits_c1_ac (k : Nat) (p0 : List Int) (p1 : Col) (p2 : Int) (r : Bool) (h : impl_PointOrbits_c1 k p0 p1 p2 = some r) : AC Tryz.prog 38 [.d (.sl none (intsD p0)), .d (.pv (colD p1) 0), .d (.pv ([iD p2]) 0)] [] (fun res H' => res = [bV r] ∧ H' = []) := by
 refine AC_of_body true Tryz.func38 rfl Tryz.ntmps38 (rvs := [.tmp 4]) rfl rfl (fun G hG => ?_)
 have hm : G.H.length = 0 := by rw [hG]; rfl
 have hz : zeroG G.H = true := by rw [hG]; rfl
 unfold impl_PointOrbits_c1 at h
 refine kR ?_
 refine kN 1 rfl ?_
 refine ACode_seq (ACode_quiet mixed (by kernel_rfl) ?_)
 refine kQ 1 rfl ?_
 obtain ⟨hc1, h⟩ := guardO h
 refine AQ_q 6 _ rfl rfl rfl (QOp_indexAddr_sl _ _ _ _ _ _ _ _ rfl Tryz.underlying40 Tryz.sizeOf2 hc1.1 (by rw [intsD_length]; exact hc1.2) rfl rfl) ?_
 refine AQ_q 7 _ rfl rfl rfl (QOp_load_pv _ _ _ _ _ rfl Tryz.isAgg2 rfl (intsD_get _ _ 0 (by omega))) ?_
 refine AQ_q 8 _ rfl rfl rfl (QOp_load_pv _ _ _ _ _ rfl Tryz.isAgg2 rfl rfl) ?_
 obtain ⟨r2, hr2, h⟩ := bindO h
 refine AQ_call 9 _ _ _ _ _ _ _ _ _ rfl rfl rfl rfl rfl rfl rfl Tryz.call39 rfl rfl rfl (impl_Colouring_isMoved_ac k p1 (p0.getD (0 : Int).toNat 0) p2 _ hr2) ?_
 refine kQ 1 rfl ?_
 refine AQ_nil ?_
 refine ACode_ret ?_
 cases h
 exact ⟨_, _, fun r a w h => ⟨r, h⟩, _, _, [], _, (.cons (ResV_tmp _ _ rfl) .nil), rfl, rfl, rfl, rfl, rfl⟩

end Go.Proofs.YtldgmcghdohmeaaGreat
