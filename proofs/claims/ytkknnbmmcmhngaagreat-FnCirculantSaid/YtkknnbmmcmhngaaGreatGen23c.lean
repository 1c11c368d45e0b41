/- Plain functions of the program and that the program computes them: printed by the own tool gen.py. No conditions. -/
import Derived.Test.YtkknnbmmcmhngaaGreatGen23b
set_option linter.unusedVariables false
set_option linter.unusedSimpArgs false
namespace Go.Proofs.YtkknnbmmcmhngaaGreat
open Go Go.RowKit Ab

-- loop.example/g01362/spec.DrawListOfDigital
def spec_DrawListOfDigital (k : Nat) (p0 : List UInt8) : Option (Col) :=
 (spec_l01From k p0).bind fun r1 => (spec_l03Draw k r1).bind fun r2 => some r2.1
set_option maxRecDepth 100000 in
theorem spec_DrawListOfDigital_ac (k : Nat) (p0 : List UInt8) (r : Col) (h : spec_DrawListOfDigital k p0 = some r) : AC Tryz.prog 50 [.d (.sl none (bysD p0))] [] (fun res H' => res = [.d (.agg (colD r))] ∧ H' = []) := by
 refine AC_of_body true Tryz.func50 rfl Tryz.ntmps50 (rvs := [.cell 2 26]) rfl rfl (fun G hG => ?_)
 have hm : G.H.length = 0 := by rw [hG]; rfl
 have hz : zeroG G.H = true := by rw [hG]; rfl
 unfold spec_DrawListOfDigital at h
 refine kR ?_
 refine AOps_alloc 2 _ _ (colD Col.zero) (zero_of Tryz.typeInfo26 rfl) (by rfl) rfl rfl rfl rfl ?_
 refine AOps_nil ?_
 refine kR ?_
 refine kM 1 rfl ?_
 obtain ⟨r1, hr1, h⟩ := bindO h
 refine kC [] 4 (.ptr 1 0) [.box (colD Col.zero), .box (srcD r1)] rfl Tryz.call64 rfl rfl (spec_l01From_ac k p0 _ hr1) rfl ?_
 obtain ⟨r2, hr2, h⟩ := bindO h
 refine kC [1] 5 (.d (.agg (colD r2.1))) [.box (colD Col.zero), .box (srcD r2.2)] rfl Tryz.call117 rfl rfl (spec_l03Draw_ac k r1 _ hr2) rfl ?_
 refine AOps_store _ _ _ _ _ _ (colD _) _ _ rfl rfl rfl rfl rfl rfl rfl (colD_one _) (by rw [colD_length]; exact Tryz.sizeOf26) (by rw [colD_length, colD_length]; decide) (colD_whole _ _) ?_
 refine AOps_nil ?_
 refine ACode_ret ?_
 cases h
 exact ⟨_, _, fun r a w h => ⟨r, h⟩, _, _, [], _, (.cons (ResV_agg _ _ _ _ _ _ Tryz.isAgg26 Tryz.sizeOf26 rfl rfl (colD_take _) (colD_length _)) .nil), rfl, rfl, rfl, rfl, rfl⟩

-- loop.example/g01362/impl.digitalOf$1
def impl_digitalOf_c1 (p0 : Int) (p1 : Int) (p2 : List Int) : Option (Int) :=
 (if 0 ≤ w64 ((bXor .i64 p0 p1) - 1) ∧ w64 ((bXor .i64 p0 p1) - 1) < (p2.length : Int) then some (p2.getD (w64 ((bXor .i64 p0 p1) - 1)).toNat 0) else none)
set_option maxRecDepth 100000 in
theorem impl_digitalOf_c1_ac (p0 : Int) (p1 : Int) (p2 : List Int) (r : Int) (h : impl_digitalOf_c1 p0 p1 p2 = some r) : AC Tryz.prog 169 [iV p0, iV p1, .d (.pv ([.sl none (intsD p2)]) 0)] [] (fun res H' => res = [iV r] ∧ H' = []) := by
 refine AC_of_body true Tryz.func169 rfl Tryz.ntmps169 (rvs := [.tmp 5]) rfl rfl (fun G hG => ?_)
 have hm : G.H.length = 0 := by rw [hG]; rfl
 have hz : zeroG G.H = true := by rw [hG]; rfl
 unfold impl_digitalOf_c1 at h
 refine kR ?_
 refine kN 1 rfl ?_
 refine kR ?_
 refine AOps_q 6 _ rfl rfl rfl (QOp_load_pv _ _ _ _ _ rfl Tryz.isAgg27 rfl rfl) ?_
 refine kM 2 rfl ?_
 refine AOps_q 9 _ rfl rfl rfl (QOp_xor _ _ _ _ _ _ _ rfl rfl rfl) ?_
 refine AOps_q 10 _ rfl rfl rfl (QOp_sub _ _ _ _ _ _ _ rfl rfl rfl) ?_
 obtain ⟨hc1, h⟩ := guardO h
 refine AOps_q 11 _ rfl rfl rfl (QOp_indexAddr_sl _ _ _ _ _ _ _ _ rfl Tryz.underlying27 Tryz.sizeOf2 hc1.1 (by rw [intsD_length]; exact hc1.2) rfl rfl) ?_
 refine AOps_q 12 _ rfl rfl rfl (QOp_load_pv _ _ _ _ _ rfl Tryz.isAgg2 rfl (intsD_get _ _ 0 (by omega))) ?_
 refine kN 1 rfl ?_
 refine ACode_ret ?_
 cases h
 exact ⟨_, _, fun r a w h => ⟨r, h⟩, _, _, [], _, (.cons (ResV_tmp _ _ rfl) .nil), rfl, rfl, rfl, rfl, rfl⟩

-- loop.example/g01362/impl.digitalOf
def impl_digitalOf (k : Nat) (p0 : Int) (p1 : Int) (p2 : List Int) : Option (Col) :=
 (if 0 ≤ p0 then (impl_made k (bShl .i64 1 p0) p1 (fun a0 a1 => impl_digitalOf_c1 a0 a1 p2)).bind fun r2 => some r2 else none)
set_option maxRecDepth 100000 in
theorem impl_digitalOf_ac (k : Nat) (p0 : Int) (p1 : Int) (p2 : List Int) (r : Col) (h : impl_digitalOf k p0 p1 p2 = some r) : AC Tryz.prog 130 [iV p0, iV p1, .d (.sl none (intsD p2))] [] (fun res H' => res = [.d (.agg (colD r))] ∧ H' = []) := by
 refine AC_of_body true Tryz.func130 rfl Tryz.ntmps130 (rvs := [.cell 6 26]) rfl rfl (fun G hG => ?_)
 have hm : G.H.length = 0 := by rw [hG]; rfl
 have hz : zeroG G.H = true := by rw [hG]; rfl
 unfold impl_digitalOf at h
 refine kR ?_
 refine AOps_boxI 5 _ _ (.sl none (intsD p2)) _ rfl (fun c hc => by cases hc with | head => rfl | tail _ h => cases h) rfl rfl rfl rfl rfl ?_
 refine AOps_alloc 6 _ _ (colD Col.zero) (zero_of Tryz.typeInfo26 rfl) (by rfl) rfl rfl rfl rfl ?_
 refine AOps_nil ?_
 refine kR ?_
 refine kM 1 rfl ?_
 obtain ⟨hc1, h⟩ := guardO h
 refine AOps_q 8 _ rfl rfl rfl (QOp_shl _ _ _ _ _ _ _ _ hc1 rfl rfl rfl) ?_
 refine kM 1 rfl ?_
 refine AOps_q 10 _ rfl rfl rfl (QOp_makeFuncD _ _ _ _ rfl rfl rfl) ?_
 obtain ⟨r2, hr2, h⟩ := bindO h
 refine kC [] 11 (.d (.agg (colD r2))) [.box (colD Col.zero)] rfl Tryz.call148 rfl rfl (impl_made_ac k (bShl .i64 1 p0) p1 (fun a0 a1 => impl_digitalOf_c1 a0 a1 p2) 169 ([.pv ([.sl none (intsD p2)]) 0]) Tryz.call169 (fun a0 a1 r h => impl_digitalOf_c1_ac a0 a1 p2 r h) _ hr2) rfl ?_
 refine AOps_store _ _ _ _ _ _ (colD _) _ _ rfl rfl rfl rfl rfl rfl rfl (colD_one _) (by rw [colD_length]; exact Tryz.sizeOf26) (by rw [colD_length, colD_length]; decide) (colD_whole _ _) ?_
 refine AOps_nil ?_
 refine ACode_ret ?_
 cases h
 exact ⟨_, _, fun r a w h => ⟨r, h⟩, _, _, [], _, (.cons (ResV_agg _ _ _ _ _ _ Tryz.isAgg26 Tryz.sizeOf26 rfl rfl (colD_take _) (colD_length _)) .nil), rfl, rfl, rfl, rfl, rfl⟩

-- loop.example/g01362/impl.ListOfDigital
def impl_ListOfDigital_l1 (p0 : Col) : Nat → Int → (List Int) → Option (List Int)
 | 0, _, _ => none
 | k1 + 1, x7, x8 => (if decide (x7 < p0.p) then (impl_Colouring_at p0 0 x7).bind fun r10 => (if x8.length + ([r10]).length ≤ 1099511627776 then impl_ListOfDigital_l1 p0 k1 (w64 (x7 + 1)) (x8 ++ ([r10])) else none) else some x8)
def impl_ListOfDigital_l0 (k : Nat) (p0 : Col) : Nat → Int → Option (Sum (Unit) (Option (List Int) × Int))
 | 0, _ => none
 | k0 + 1, x3 => (if decide (x3 ≤ 4) then ((if 0 ≤ x3 then (if !decide (p0.p = bShl .i64 1 x3) then some (.inl ()) else (impl_ListOfDigital_l1 p0 k 1 ([] : List Int) : Option (List Int)).bind fun s12 => (impl_digitalOf k x3 p0.k s12).bind fun r13 => (if (r13.eqb p0) then (some (.inr (some s12, 0))).bind fun rr => some (.inr rr) else some (.inl ()))) else none) : Option (Sum (Unit) (Sum (Unit) (Option (List Int) × Int)))).bind fun os15 => (match os15 with | .inl s15 => impl_ListOfDigital_l0 k p0 k0 (w64 (x3 + 1)) | .inr rr => some rr) else some (.inl ()))
def impl_ListOfDigital (k : Nat) (p0 : Col) : Option (Option (List Int) × Int) :=
 (impl_Colouring_code k p0 (some (impl_always))).bind fun r1 => (if !decide (r1 = 0) then some (none, r1) else (impl_ListOfDigital_l0 k p0 k 1 : Option (Sum (Unit) (Option (List Int) × Int))).bind fun os16 => (match os16 with | .inl s16 => some (none, 5) | .inr rr => some rr))
set_option maxRecDepth 100000 in
theorem impl_ListOfDigital_ac (k : Nat) (p0 : Col) (r : Option (List Int) × Int) (h : impl_ListOfDigital k p0 = some r) : AC Tryz.prog 51 [.d (.agg (colD p0))] [] (fun res H' => res = [ownA 0 (r.1.map intsD), iV r.2] ∧ H' = [] ++ ownH (r.1.map intsD)) := by
 refine AC_of_body false Tryz.func51 rfl Tryz.ntmps51 (rvs := [.tmp 2, .tmp 3]) rfl rfl (fun G hG => ?_)
 have hm : G.H.length = 0 := by rw [hG]; rfl
 have hz : zeroG G.H = true := by rw [hG]; rfl
 unfold impl_ListOfDigital at h
 refine kR ?_
 refine AOps_boxI 1 _ _ (.agg (colD p0)) (colD p0) rfl (colD_one _) rfl rfl rfl rfl rfl ?_
 refine kN 2 rfl ?_
 refine ACode_seq ?_
 refine kR ?_
 obtain ⟨r1, hr1, h⟩ := bindO h
 refine kC [] 8 (iV r1) [] rfl Tryz.call69 rfl rfl (impl_Colouring_code_ac k p0 (some (impl_always)) 93 ([]) Tryz.call93 (fun r h => by cases h; exact impl_always_ac) _ hr1) rfl ?_
 refine kN 1 rfl ?_
 refine kR ?_
 refine kM 1 rfl ?_
 refine AOps_q 10 _ rfl rfl rfl (QOp_neq _ _ _ _ _ _ _ rfl rfl rfl) ?_
 refine AOps_nil ?_
 refine kI h rfl (fun h _ => ?_) (fun h _ => ?_)
 ·refine kR ?_
  refine kN 3 rfl ?_
  refine ACode_ret ?_
  cases h
  exact ⟨_, _, fun r a w h => ⟨r, h⟩, _, _, [], _, (.cons (ResV_tmp _ _ rfl) (.cons (ResV_tmp _ _ rfl) .nil)), rfl, rfl, rfl, rfl, rfl⟩
 refine ACode_skip ?_
 refine kO (fun s16 => []) (fun s16 => []) h (fun os16 h hks16 => ?_) (fun s16 h => ?_)
 ·refine kR ?_
  refine kN 1 rfl ?_
  refine ACode_block ?_
  refine ACode_loopW (fun k0 E H => ∃ (x3 : Int), E = [(1, .d (.pv (colD p0) 0)), (5, iV x3)] ∧ H = [] ∧ impl_ListOfDigital_l0 k p0 k0 x3 = some os16) k _ _ (Weak_keep 0 hm [1, 5] [] _ _ rfl rfl rfl) ⟨_, rfl, rfl, h⟩ ?_
  clear h
  rintro k0 E H ⟨x3, rfl, rfl, h⟩
  cases k0 with
  | zero => cases (show (none : Option (Sum (Unit) (Option (List Int) × Int))) = some _ from h)
  | succ k0 =>
   rw [impl_ListOfDigital_l0] at h
   refine ACode_seq ?_
   refine kR ?_
   refine kM 1 rfl ?_
   refine AOps_q 13 _ rfl rfl rfl (QOp_leq _ _ _ _ _ _ _ rfl rfl rfl) ?_
   refine AOps_nil ?_
   refine kI h rfl (fun h _ => ?_) (fun h _ => ?_)
   ·refine ACode_skip ?_
    refine kO (fun s15 => [(1, .d (.pv (colD p0) 0)), (5, iV x3)]) (fun s15 => []) h (fun os15 h hks15 => ?_) (fun s15 h => ?_)
    ·refine ACode_block ?_
     refine ACode_seq ?_
     refine ACode_seq (ACode_quiet mixed (by kernel_rfl) ?_)
     refine AQ_q 16 _ rfl rfl rfl (QOp_fieldAddr_pv _ _ _ _ _ 0 _ _ rfl Tryz.underlying26 rfl _ Tryz.sizeOf2 rfl rfl) ?_
     refine AQ_q 17 _ rfl rfl rfl (QOp_load_pv _ _ _ _ _ rfl Tryz.isAgg2 rfl rfl) ?_
     refine kQ 1 rfl ?_
     obtain ⟨hc5, h⟩ := guardO h
     refine AQ_q 19 _ rfl rfl rfl (QOp_shl _ _ _ _ _ _ _ _ hc5 rfl rfl rfl) ?_
     refine AQ_q 20 _ rfl rfl rfl (QOp_neq _ _ _ _ _ _ _ rfl rfl rfl) ?_
     refine AQ_nil ?_
     refine kI h rfl (fun h _ => ?_) (fun h _ => ?_)
     ·refine ACode_exit ?_
      cases h
      exact ⟨_, rfl, Weak_keep 0 hm [1, 5] [] _ _ rfl rfl rfl⟩
     refine ACode_skip ?_
     refine kR ?_
     refine AOps_buildSlice 21 _ _ _ [] (intsD ([] : List Int)) _ rfl rfl rfl rfl rfl (by decide) Tryz.underlying27 Tryz.sizeOf2 (zero_of Tryz.typeInfo2 rfl) rfl rfl (intsD_one _) ?_
     refine kN 1 rfl ?_
     refine kB (fun s12 => [(1, .d (.pv (colD p0) 0)), (5, iV x3), (6, .vec 0 0)]) (fun s12 => [.vec 0 (intsD s12)]) h (fun s12 h => ?_) (fun s12 h => ?_)
     ·refine kR ?_
      refine kN 1 rfl ?_
      refine ACode_block ?_
      refine ACode_loopW (fun k1 E H => ∃ (x7 : Int) (x8 : List Int), E = [(1, .d (.pv (colD p0) 0)), (5, iV x3), (6, .vec 0 0), (7, iV x7)] ∧ H = [.vec 0 (intsD x8)] ∧ impl_ListOfDigital_l1 p0 k1 x7 x8 = some s12) k _ _ (Weak_keep 0 hm [1, 5, 6, 7] [0] _ _ rfl rfl rfl) ⟨_, _, rfl, rfl, h⟩ ?_
      clear h
      rintro k1 E H ⟨x7, x8, rfl, rfl, h⟩
      cases k1 with
      | zero => cases (show (none : Option (List Int)) = some _ from h)
      | succ k1 =>
       rw [impl_ListOfDigital_l1] at h
       refine ACode_seq ?_
       refine kR ?_
       refine kM 1 rfl ?_
       refine AOps_q 23 _ rfl rfl rfl (QOp_fieldAddr_pv _ _ _ _ _ 0 _ _ rfl Tryz.underlying26 rfl _ Tryz.sizeOf2 rfl rfl) ?_
       refine AOps_q 24 _ rfl rfl rfl (QOp_load_pv _ _ _ _ _ rfl Tryz.isAgg2 rfl rfl) ?_
       refine AOps_q 25 _ rfl rfl rfl (QOp_lss _ _ _ _ _ _ _ rfl rfl rfl) ?_
       refine AOps_nil ?_
       refine kI h rfl (fun h _ => ?_) (fun h _ => ?_)
       ·refine ACode_skip ?_
        refine ACode_seq ?_
        refine ACode_block ?_
        refine (ACode_region ?_)
        refine kM 2 rfl ?_
        obtain ⟨r10, hr10, h⟩ := bindO h
        refine kC [] 30 (iV r10) [.vec 0 (intsD x8)] rfl Tryz.call129 rfl rfl (impl_Colouring_at_ac p0 0 x7 _ hr10) rfl ?_
        refine AOps_buildSlice 31 _ _ _ [_] (intsD ([r10])) _ rfl rfl rfl rfl rfl (by decide) Tryz.underlying27 Tryz.sizeOf2 (zero_of Tryz.typeInfo2 rfl) rfl rfl (intsD_one _) ?_
        obtain ⟨hc11, h⟩ := guardO h
        refine AOps_append 32 _ _ _ _ _ _ _ _ _ _ _ _ rfl rfl rfl rfl rfl rfl rfl Tryz.underlying27 Tryz.type2 rfl rfl rfl (by decide) rfl rfl rfl rfl (intsD_one _) (by rw [intsD_length, intsD_length]; exact hc11) ?_
        rw [intsD_app]
        refine kN 1 rfl ?_
        refine (ACode_region ?_)
        refine kM 1 rfl ?_
        refine AOps_q 27 _ rfl rfl rfl (QOp_add _ _ _ _ _ _ _ rfl rfl rfl) ?_
        refine kN 1 rfl ?_
        exact ⟨k1, _, _, Nat.lt_succ_self _, Weak_trans (Weak_keep 0 hm [1, 5, 6, 7] [0] _ _ rfl rfl rfl) (Weak_reset 0 hm hz [1, 5, 6, 7] _ _ rfl rfl), _, _, rfl, rfl, h⟩
       refine ACode_exit ?_
       cases h
       exact Weak_keep 0 hm [1, 5, 6] [0] _ _ rfl rfl rfl
     obtain ⟨r13, hr13, h⟩ := bindO h
     refine ACode_seqJ (fun E' H' => Weak 41 G E' H' [(1, .d (.pv (colD p0) 0)), (5, iV x3), (6, .vec 0 0), (39, bV (r13.eqb p0))] [.vec 0 (intsD s12)]) ?_ ?_
     ·refine ACode_any mixed ?_
      refine AAny_q 0 33 _ rfl (by kernel_rfl) rfl rfl rfl (QOp_move _ _ rfl rfl) ?_
      refine AAny_q 1 34 _ rfl (by kernel_rfl) rfl rfl rfl (QOp_fieldAddr_pv _ _ _ _ _ 1 _ _ rfl Tryz.underlying26 rfl _ Tryz.sizeOf2 rfl rfl) ?_
      refine AAny_q 2 35 _ rfl (by kernel_rfl) rfl rfl rfl (QOp_load_pv _ _ _ _ _ rfl Tryz.isAgg2 rfl rfl) ?_
      refine AAny_q 3 36 _ rfl (by kernel_rfl) rfl rfl rfl (QOp_move _ _ rfl rfl) ?_
      refine AAny_q 5 38 _ rfl (by kernel_rfl) rfl rfl rfl (QOp_loadN_pv _ _ _ _ _ _ rfl Tryz.isAgg26 Tryz.sizeOf26 rfl (colD_all _) (colD_length _)) ?_
      refine AAny_all [4] (by kernel_rfl) rfl (allc ?_ (fun _ h => nomatch h))
      refine AStep_call 4 37 _ _ _ _ _ _ _ _ _ rfl rfl rfl rfl rfl rfl rfl rfl Tryz.call130 rfl rfl rfl (impl_digitalOf_ac k x3 p0.k s12 _ hr13) ?_
      rintro _ _ ⟨rfl, rfl⟩
      refine ⟨(fun _ h => nomatch h), (allc (flat_agg (colD_flat _)) (fun _ h => nomatch h)), AAny_as 37 (v' := .d (.agg (colD r13))) (H' := [.vec 0 (intsD s12)]) rfl rfl ?_⟩
      refine AAny_q 6 39 _ rfl (by kernel_rfl) rfl rfl rfl (QOp_eqCol _ _ _ _ _ _ _ _ _ _ _ _ rfl rfl rfl Tryz.underlying26 (by kernel_rfl) (by kernel_rfl) (by decide) (by decide) (by decide) rfl rfl rfl rfl rfl rfl Tryz.underlying2 Tryz.underlying24 Tryz.underlying5 Tryz.sizeOf5 Tryz.sizeOf24) ?_
      refine AAny_done (by kernel_rfl) ?_
      exact Weak_keep 0 hm [1, 5, 6, 39] [0] _ _ rfl rfl rfl
     intro E' H' hw
     refine ACode_weak hw ?_
     refine kI h rfl (fun h _ => ?_) (fun h _ => ?_)
     ·refine kR ?_
      refine kN 3 rfl ?_
      refine ACode_ret ?_
      obtain ⟨rr, hz17, h2⟩ := bindO h
      obtain rfl := Option.some.inj h2
      obtain rfl := Option.some.inj (show some rr = some _ from hks15)
      have h := hz17
      cases h
      have h := hks16
      cases h
      exact ⟨_, _, Weak_reset 0 hm hz [2, 3] _ _ rfl rfl, _, _, [0], _, (.cons (ResV_tmp _ _ rfl) (.cons (ResV_tmp _ _ rfl) .nil)), rfl, rfl, rfl, rfl, rfl⟩
     refine ACode_skip ?_
     cases h
     exact ⟨_, rfl, Weak_keep 0 hm [1, 5] [] _ _ rfl rfl rfl⟩
    refine (ACode_region ?_)
    refine kM 1 rfl ?_
    refine AOps_q 15 _ rfl rfl rfl (QOp_add _ _ _ _ _ _ _ rfl rfl rfl) ?_
    refine kN 1 rfl ?_
    exact ⟨k0, _, _, Nat.lt_succ_self _, Weak_keep 0 hm [1, 5] [] _ _ rfl rfl rfl, _, rfl, rfl, h⟩
   refine ACode_exit ?_
   cases h
   exact ⟨_, rfl, Weak_keep 0 hm [] [] _ _ rfl rfl rfl⟩
 refine kR ?_
 refine kN 2 rfl ?_
 refine ACode_ret ?_
 cases h
 exact ⟨_, _, fun r a w h => ⟨r, h⟩, _, _, [], _, (.cons (ResV_tmp _ _ rfl) (.cons (ResV_tmp _ _ rfl) .nil)), rfl, rfl, rfl, rfl, rfl⟩

-- loop.example/g01362/spec.ListOfDigital
def spec_ListOfDigital_l0 (p0 : Col) : Nat → Int → (List Int) → Option (List Int)
 | 0, _, _ => none
 | k0 + 1, x7, x8 => (if decide (x7 < p0.p) then (spec_l01At p0 0 x7).bind fun r10 => (if x8.length + ([r10]).length ≤ 1099511627776 then spec_ListOfDigital_l0 p0 k0 (w64 (x7 + 1)) (x8 ++ ([r10])) else none) else some x8)
def spec_ListOfDigital (k : Nat) (p0 : Col) : Option (List Int × Int) :=
 (spec_l01Is k p0).bind fun r1 => (if !r1 then some ([], 1) else (letO (if decide (p0.p < 2) then true else !decide (bAnd .i64 p0.p (w64 (p0.p - 1)) = 0)) fun (s4 : Bool) => (if s4 then some (.inr ([], 5)) else some (.inl ())) : Option (Sum (Unit) (List Int × Int))).bind fun os6 => (match os6 with | .inl s6 => (spec_ListOfDigital_l0 p0 k 1 ([] : List Int) : Option (List Int)).bind fun s12 => (spec_l03Digital k p0.p p0.k s12).bind fun r13 => (if !(r13.eqb p0) then some ([], 5) else some (s12, 0)) | .inr rr => some rr))
set_option maxRecDepth 100000 in
theorem spec_ListOfDigital_ac (k : Nat) (p0 : Col) (r : List Int × Int) (h : spec_ListOfDigital k p0 = some r) : AC Tryz.prog 52 [.d (.agg (colD p0))] [] (fun res H' => res = [.d (.sl none (intsD r.1)), iV r.2] ∧ H' = []) := by
 refine AC_of_body true Tryz.func52 rfl Tryz.ntmps52 (rvs := [.tmp 2, .tmp 3]) rfl rfl (fun G hG => ?_)
 have hm : G.H.length = 0 := by rw [hG]; rfl
 have hz : zeroG G.H = true := by rw [hG]; rfl
 unfold spec_ListOfDigital at h
 refine kR ?_
 refine AOps_boxI 1 _ _ (.agg (colD p0)) (colD p0) rfl (colD_one _) rfl rfl rfl rfl rfl ?_
 refine kN 2 rfl ?_
 refine ACode_seq ?_
 refine kR ?_
 refine AOps_q 6 _ rfl rfl rfl (QOp_loadN_pv _ _ _ _ _ _ rfl Tryz.isAgg26 Tryz.sizeOf26 rfl (colD_all _) (colD_length _)) ?_
 obtain ⟨r1, hr1, h⟩ := bindO h
 refine kC [] 7 (bV r1) [] rfl Tryz.call73 rfl rfl (spec_l01Is_ac k p0 _ hr1) rfl ?_
 refine AOps_q 8 _ rfl rfl rfl (QOp_not _ _ _ rfl rfl) ?_
 refine AOps_nil ?_
 refine kI h rfl (fun h _ => ?_) (fun h _ => ?_)
 ·refine kR ?_
  refine kN 2 rfl ?_
  refine ACode_ret ?_
  cases h
  exact ⟨_, _, fun r a w h => ⟨r, h⟩, _, _, [], _, (.cons (ResV_tmp _ _ rfl) (.cons (ResV_tmp _ _ rfl) .nil)), rfl, rfl, rfl, rfl, rfl⟩
 refine ACode_skip ?_
 refine kO (fun s6 => [(1, .d (.pv (colD p0) 0))]) (fun s6 => []) h (fun os6 h hks6 => ?_) (fun s6 h => ?_)
 ·refine kL (fun s4 => [(1, .d (.pv (colD p0) 0)), (20, bV s4)]) (fun s4 => []) h (fun s4 h => ?_) (fun s4 h => ?_)
  ·refine (ACode_region ?_)
   refine AOps_q 9 _ rfl rfl rfl (QOp_fieldAddr_pv _ _ _ _ _ 0 _ _ rfl Tryz.underlying26 rfl _ Tryz.sizeOf2 rfl rfl) ?_
   refine AOps_q 10 _ rfl rfl rfl (QOp_load_pv _ _ _ _ _ rfl Tryz.isAgg2 rfl rfl) ?_
   refine AOps_q 11 _ rfl rfl rfl (QOp_lss _ _ _ _ _ _ _ rfl rfl rfl) ?_
   refine kM 1 rfl ?_
   refine AOps_case 12 _ rfl (fun hb3 => ?_) (fun hb3 => ?_)
   ·have h := iteT hb3 h
    refine AOps_skip 13 rfl rfl rfl ?_
    refine AOps_skip 14 rfl rfl rfl ?_
    refine AOps_skip 15 rfl rfl rfl ?_
    refine AOps_skip 16 rfl rfl rfl ?_
    refine AOps_skip 17 rfl rfl rfl ?_
    refine AOps_skip 18 rfl rfl rfl ?_
    refine AOps_skip 19 rfl rfl rfl ?_
    refine kN 1 rfl ?_
    cases h
    exact Weak_keep 0 hm [1, 20] [] _ _ rfl rfl rfl
   have h := iteF hb3 h
   refine AOps_q 13 _ rfl rfl rfl (QOp_fieldAddr_pv _ _ _ _ _ 0 _ _ rfl Tryz.underlying26 rfl _ Tryz.sizeOf2 rfl rfl) ?_
   refine AOps_q 14 _ rfl rfl rfl (QOp_load_pv _ _ _ _ _ rfl Tryz.isAgg2 rfl rfl) ?_
   refine AOps_q 15 _ rfl rfl rfl (QOp_fieldAddr_pv _ _ _ _ _ 0 _ _ rfl Tryz.underlying26 rfl _ Tryz.sizeOf2 rfl rfl) ?_
   refine AOps_q 16 _ rfl rfl rfl (QOp_load_pv _ _ _ _ _ rfl Tryz.isAgg2 rfl rfl) ?_
   refine AOps_q 17 _ rfl rfl rfl (QOp_sub _ _ _ _ _ _ _ rfl rfl rfl) ?_
   refine AOps_q 18 _ rfl rfl rfl (QOp_and _ _ _ _ _ _ _ rfl rfl rfl) ?_
   refine AOps_q 19 _ rfl rfl rfl (QOp_neq _ _ _ _ _ _ _ rfl rfl rfl) ?_
   refine kN 1 rfl ?_
   cases h
   exact Weak_keep 0 hm [1, 20] [] _ _ rfl rfl rfl
  refine kI h rfl (fun h _ => ?_) (fun h _ => ?_)
  ·refine kR ?_
   refine kN 2 rfl ?_
   refine ACode_ret ?_
   cases h
   have h := hks6
   cases h
   exact ⟨_, _, fun r a w h => ⟨r, h⟩, _, _, [], _, (.cons (ResV_tmp _ _ rfl) (.cons (ResV_tmp _ _ rfl) .nil)), rfl, rfl, rfl, rfl, rfl⟩
  refine ACode_skip ?_
  cases h
  exact ⟨_, rfl, Weak_keep 0 hm [1] [] _ _ rfl rfl rfl⟩
 refine kR ?_
 refine AOps_buildSlice 21 _ _ _ [] (intsD ([] : List Int)) _ rfl rfl rfl rfl rfl (by decide) Tryz.underlying27 Tryz.sizeOf2 (zero_of Tryz.typeInfo2 rfl) rfl rfl (intsD_one _) ?_
 refine kN 1 rfl ?_
 refine kB (fun s12 => [(1, .d (.pv (colD p0) 0)), (4, .vec 0 0)]) (fun s12 => [.vec 0 (intsD s12)]) h (fun s12 h => ?_) (fun s12 h => ?_)
 ·refine kR ?_
  refine kN 1 rfl ?_
  refine ACode_block ?_
  refine ACode_loopW (fun k0 E H => ∃ (x7 : Int) (x8 : List Int), E = [(1, .d (.pv (colD p0) 0)), (4, .vec 0 0), (5, iV x7)] ∧ H = [.vec 0 (intsD x8)] ∧ spec_ListOfDigital_l0 p0 k0 x7 x8 = some s12) k _ _ (Weak_keep 0 hm [1, 4, 5] [0] _ _ rfl rfl rfl) ⟨_, _, rfl, rfl, h⟩ ?_
  clear h
  rintro k0 E H ⟨x7, x8, rfl, rfl, h⟩
  cases k0 with
  | zero => cases (show (none : Option (List Int)) = some _ from h)
  | succ k0 =>
   rw [spec_ListOfDigital_l0] at h
   refine ACode_seq ?_
   refine kR ?_
   refine kM 1 rfl ?_
   refine AOps_q 23 _ rfl rfl rfl (QOp_fieldAddr_pv _ _ _ _ _ 0 _ _ rfl Tryz.underlying26 rfl _ Tryz.sizeOf2 rfl rfl) ?_
   refine AOps_q 24 _ rfl rfl rfl (QOp_load_pv _ _ _ _ _ rfl Tryz.isAgg2 rfl rfl) ?_
   refine AOps_q 25 _ rfl rfl rfl (QOp_lss _ _ _ _ _ _ _ rfl rfl rfl) ?_
   refine AOps_nil ?_
   refine kI h rfl (fun h _ => ?_) (fun h _ => ?_)
   ·refine ACode_skip ?_
    refine ACode_seq ?_
    refine ACode_block ?_
    refine (ACode_region ?_)
    refine kM 1 rfl ?_
    refine AOps_q 29 _ rfl rfl rfl (QOp_loadN_pv _ _ _ _ _ _ rfl Tryz.isAgg26 Tryz.sizeOf26 rfl (colD_all _) (colD_length _)) ?_
    refine kM 1 rfl ?_
    obtain ⟨r10, hr10, h⟩ := bindO h
    refine kC [] 31 (iV r10) [.vec 0 (intsD x8)] rfl Tryz.call131 rfl rfl (spec_l01At_ac p0 0 x7 _ hr10) rfl ?_
    refine AOps_buildSlice 32 _ _ _ [_] (intsD ([r10])) _ rfl rfl rfl rfl rfl (by decide) Tryz.underlying27 Tryz.sizeOf2 (zero_of Tryz.typeInfo2 rfl) rfl rfl (intsD_one _) ?_
    obtain ⟨hc11, h⟩ := guardO h
    refine AOps_append 33 _ _ _ _ _ _ _ _ _ _ _ _ rfl rfl rfl rfl rfl rfl rfl Tryz.underlying27 Tryz.type2 rfl rfl rfl (by decide) rfl rfl rfl rfl (intsD_one _) (by rw [intsD_length, intsD_length]; exact hc11) ?_
    rw [intsD_app]
    refine kN 1 rfl ?_
    refine (ACode_region ?_)
    refine kM 1 rfl ?_
    refine AOps_q 27 _ rfl rfl rfl (QOp_add _ _ _ _ _ _ _ rfl rfl rfl) ?_
    refine kN 1 rfl ?_
    exact ⟨k0, _, _, Nat.lt_succ_self _, Weak_trans (Weak_keep 0 hm [1, 4, 5] [0] _ _ rfl rfl rfl) (Weak_reset 0 hm hz [1, 4, 5] _ _ rfl rfl), _, _, rfl, rfl, h⟩
   refine ACode_exit ?_
   cases h
   exact Weak_keep 0 hm [1, 4] [0] _ _ rfl rfl rfl
 refine ACode_seq ?_
 obtain ⟨r13, hr13, h⟩ := bindO h
 refine ACode_seqJ (fun E' H' => Weak 43 G E' H' [(4, .vec 0 0), (41, bV (!(r13.eqb p0)))] [.vec 0 (intsD s12)]) ?_ ?_
 ·refine ACode_any mixed ?_
  refine AAny_q 0 34 _ rfl (by kernel_rfl) rfl rfl rfl (QOp_fieldAddr_pv _ _ _ _ _ 0 _ _ rfl Tryz.underlying26 rfl _ Tryz.sizeOf2 rfl rfl) ?_
  refine AAny_q 1 35 _ rfl (by kernel_rfl) rfl rfl rfl (QOp_load_pv _ _ _ _ _ rfl Tryz.isAgg2 rfl rfl) ?_
  refine AAny_q 2 36 _ rfl (by kernel_rfl) rfl rfl rfl (QOp_fieldAddr_pv _ _ _ _ _ 1 _ _ rfl Tryz.underlying26 rfl _ Tryz.sizeOf2 rfl rfl) ?_
  refine AAny_q 3 37 _ rfl (by kernel_rfl) rfl rfl rfl (QOp_load_pv _ _ _ _ _ rfl Tryz.isAgg2 rfl rfl) ?_
  refine AAny_q 4 38 _ rfl (by kernel_rfl) rfl rfl rfl (QOp_move _ _ rfl rfl) ?_
  refine AAny_q 6 40 _ rfl (by kernel_rfl) rfl rfl rfl (QOp_loadN_pv _ _ _ _ _ _ rfl Tryz.isAgg26 Tryz.sizeOf26 rfl (colD_all _) (colD_length _)) ?_
  refine AAny_all [5] (by kernel_rfl) rfl (allc ?_ (fun _ h => nomatch h))
  refine AStep_call 5 39 _ _ _ _ _ _ _ _ _ rfl rfl rfl rfl rfl rfl rfl rfl Tryz.call132 rfl rfl rfl (spec_l03Digital_ac k p0.p p0.k s12 _ hr13) ?_
  rintro _ _ ⟨rfl, rfl⟩
  refine ⟨(fun _ h => nomatch h), (allc (flat_agg (colD_flat _)) (fun _ h => nomatch h)), AAny_as 39 (v' := .d (.agg (colD r13))) (H' := [.vec 0 (intsD s12)]) rfl rfl ?_⟩
  refine AAny_q 7 41 _ rfl (by kernel_rfl) rfl rfl rfl (QOp_neqCol _ _ _ _ _ _ _ _ _ _ _ _ rfl rfl rfl Tryz.underlying26 (by kernel_rfl) (by kernel_rfl) (by decide) (by decide) (by decide) rfl rfl rfl rfl rfl rfl Tryz.underlying2 Tryz.underlying24 Tryz.underlying5 Tryz.sizeOf5 Tryz.sizeOf24) ?_
  refine AAny_done (by kernel_rfl) ?_
  exact Weak_keep 0 hm [4, 41] [0] _ _ rfl rfl rfl
 intro E' H' hw
 refine ACode_weak hw ?_
 refine kI h rfl (fun h _ => ?_) (fun h _ => ?_)
 ·refine kR ?_
  refine kN 2 rfl ?_
  refine ACode_ret ?_
  cases h
  exact ⟨_, _, fun r a w h => ⟨r, h⟩, _, _, [], _, (.cons (ResV_tmp _ _ rfl) (.cons (ResV_tmp _ _ rfl) .nil)), rfl, rfl, rfl, rfl, rfl⟩
 refine ACode_skip ?_
 refine kR ?_
 refine kN 3 rfl ?_
 refine ACode_ret ?_
 cases h
 exact ⟨_, _, fun r a w h => ⟨r, h⟩, _, _, [], _, (.cons (ResV_tmp _ _ rfl) (.cons (ResV_tmp _ _ rfl) .nil)), rfl, rfl, rfl, rfl, rfl⟩

-- loop.example/g01362/impl.DigitalOf
def impl_DigitalOf (k : Nat) (p0 : Int) (p1 : Int) (p2 : List Int) : Option (Col × Int) :=
 (((if !(impl_in p0 1 4) then some true else (if !(impl_in p1 1 4) then some true else (if 0 ≤ p0 then (impl_areIn k p2 (w64 ((bShl .i64 1 p0) - 1)) 0 (w64 (p1 - 1))).bind fun r6 => some (!r6) else none))) : Option (Bool)).bind fun s7 => (if s7 then some (.inr ((⟨0, 0, B136.zero⟩ : Col), 2)) else some (.inl ())) : Option (Sum (Unit) (Col × Int))).bind fun os9 => (match os9 with | .inl s9 => (impl_digitalOf k p0 p1 p2).bind fun r10 => some (r10, 0) | .inr rr => some rr)
set_option maxRecDepth 100000 in
theorem impl_DigitalOf_ac (k : Nat) (p0 : Int) (p1 : Int) (p2 : List Int) (r : Col × Int) (h : impl_DigitalOf k p0 p1 p2 = some r) : AC Tryz.prog 53 [iV p0, iV p1, .d (.sl none (intsD p2))] [] (fun res H' => res = [.d (.agg (colD r.1)), iV r.2] ∧ H' = []) := by
 refine AC_of_body true Tryz.func53 rfl Tryz.ntmps53 (rvs := [.cell 6 26, .tmp 7]) rfl rfl (fun G hG => ?_)
 have hm : G.H.length = 0 := by rw [hG]; rfl
 have hz : zeroG G.H = true := by rw [hG]; rfl
 unfold impl_DigitalOf at h
 refine kR ?_
 refine AOps_alloc 6 _ _ (colD Col.zero) (zero_of Tryz.typeInfo26 rfl) (by rfl) rfl rfl rfl rfl ?_
 refine kN 1 rfl ?_
 refine kO (fun s9 => [(0, iV p0), (1, iV p1), (2, .d (.sl none (intsD p2))), (6, .ptr 0 0)]) (fun s9 => [.box (colD Col.zero)]) h (fun os9 h hks9 => ?_) (fun s9 h => ?_)
 ·refine kB (fun s7 => [(0, iV p0), (1, iV p1), (2, .d (.sl none (intsD p2))), (6, .ptr 0 0), (25, bV s7)]) (fun s7 => [.box (colD Col.zero)]) h (fun s7 h => ?_) (fun s7 h => ?_)
  ·refine (ACode_region ?_)
   refine kM 1 rfl ?_
   refine kC [] 9 (bV (impl_in p0 1 4)) [.box (colD Col.zero)] rfl Tryz.call133 rfl rfl (impl_in_ac p0 1 4) rfl ?_
   refine AOps_q 10 _ rfl rfl rfl (QOp_not _ _ _ rfl rfl) ?_
   refine kM 1 rfl ?_
   refine AOps_case 11 _ rfl (fun hb2 => ?_) (fun hb2 => ?_)
   ·have h := iteT hb2 h
    refine AOps_skip 12 rfl rfl rfl ?_
    refine AOps_skip 13 rfl rfl rfl ?_
    refine AOps_skip 14 rfl rfl rfl ?_
    refine kM 2 rfl ?_
    refine AOps_skip 17 rfl rfl rfl ?_
    refine AOps_skip 18 rfl rfl rfl ?_
    refine AOps_skip 19 rfl rfl rfl ?_
    refine AOps_skip 20 rfl rfl rfl ?_
    refine AOps_skip 21 rfl rfl rfl ?_
    refine AOps_skip 22 rfl rfl rfl ?_
    refine AOps_skip 23 rfl rfl rfl ?_
    refine AOps_skip 24 rfl rfl rfl ?_
    refine kN 1 rfl ?_
    cases h
    exact Weak_keep 0 hm [0, 1, 2, 6, 25] [0] _ _ rfl rfl rfl
   have h := iteF hb2 h
   refine kM 1 rfl ?_
   refine kC [] 13 (bV (impl_in p1 1 4)) [.box (colD Col.zero)] rfl Tryz.call133 rfl rfl (impl_in_ac p1 1 4) rfl ?_
   refine AOps_q 14 _ rfl rfl rfl (QOp_not _ _ _ rfl rfl) ?_
   refine kM 2 rfl ?_
   refine AOps_case 16 _ rfl (fun hb4 => ?_) (fun hb4 => ?_)
   ·have h := iteT hb4 h
    refine AOps_skip 17 rfl rfl rfl ?_
    refine AOps_skip 18 rfl rfl rfl ?_
    refine AOps_skip 19 rfl rfl rfl ?_
    refine AOps_skip 20 rfl rfl rfl ?_
    refine AOps_skip 21 rfl rfl rfl ?_
    refine AOps_skip 22 rfl rfl rfl ?_
    refine AOps_skip 23 rfl rfl rfl ?_
    refine AOps_skip 24 rfl rfl rfl ?_
    refine kN 1 rfl ?_
    cases h
    exact Weak_keep 0 hm [0, 1, 2, 6, 25] [0] _ _ rfl rfl rfl
   have h := iteF hb4 h
   refine kM 2 rfl ?_
   obtain ⟨hc5, h⟩ := guardO h
   refine AOps_q 19 _ rfl rfl rfl (QOp_shl _ _ _ _ _ _ _ _ hc5 rfl rfl rfl) ?_
   refine AOps_q 20 _ rfl rfl rfl (QOp_sub _ _ _ _ _ _ _ rfl rfl rfl) ?_
   refine kM 1 rfl ?_
   refine AOps_q 22 _ rfl rfl rfl (QOp_sub _ _ _ _ _ _ _ rfl rfl rfl) ?_
   obtain ⟨r6, hr6, h⟩ := bindO h
   refine kC [] 23 (bV r6) [.box (colD Col.zero)] rfl Tryz.call71 rfl rfl (impl_areIn_ac k p2 (w64 ((bShl .i64 1 p0) - 1)) 0 (w64 (p1 - 1)) _ hr6) rfl ?_
   refine AOps_q 24 _ rfl rfl rfl (QOp_not _ _ _ rfl rfl) ?_
   refine kN 1 rfl ?_
   cases h
   exact Weak_keep 0 hm [0, 1, 2, 6, 25] [0] _ _ rfl rfl rfl
  refine kI h rfl (fun h _ => ?_) (fun h _ => ?_)
  ·refine kR ?_
   refine AOps_q 26 _ rfl rfl rfl (QOp_build _ _ [] [] [] _ (colD Col.zero) (colD (⟨0, 0, B136.zero⟩ : Col)) [(0, 1), (1, 1), (2, 136)] rfl rfl Tryz.underlying26 (zero_of Tryz.typeInfo26 rfl) (fun w => by simp [Tryz.sizeOf2, Tryz.sizeOf2, Tryz.sizeOf24]) rfl (by rfl) (by rfl) (fun _ h => nomatch h)) ?_
   refine AOps_store _ _ _ _ _ _ (colD _) _ _ rfl rfl rfl rfl rfl rfl rfl (colD_one _) (by rw [colD_length]; exact Tryz.sizeOf26) (by rw [colD_length, colD_length]; decide) (colD_whole _ _) ?_
   refine kN 1 rfl ?_
   refine ACode_ret ?_
   cases h
   have h := hks9
   cases h
   exact ⟨_, _, fun r a w h => ⟨r, h⟩, _, _, [], _, (.cons (ResV_agg _ _ _ _ _ _ Tryz.isAgg26 Tryz.sizeOf26 rfl rfl (colD_take _) (colD_length _)) (.cons (ResV_tmp _ _ rfl) .nil)), rfl, rfl, rfl, rfl, rfl⟩
  refine ACode_skip ?_
  cases h
  exact ⟨_, rfl, Weak_keep 0 hm [0, 1, 2, 6] [0] _ _ rfl rfl rfl⟩
 refine kR ?_
 refine kM 3 rfl ?_
 obtain ⟨r10, hr10, h⟩ := bindO h
 refine kC [] 30 (.d (.agg (colD r10))) [.box (colD Col.zero)] rfl Tryz.call130 rfl rfl (impl_digitalOf_ac k p0 p1 p2 _ hr10) rfl ?_
 refine AOps_store _ _ _ _ _ _ (colD _) _ _ rfl rfl rfl rfl rfl rfl rfl (colD_one _) (by rw [colD_length]; exact Tryz.sizeOf26) (by rw [colD_length, colD_length]; decide) (colD_whole _ _) ?_
 refine kN 1 rfl ?_
 refine ACode_ret ?_
 cases h
 exact ⟨_, _, fun r a w h => ⟨r, h⟩, _, _, [], _, (.cons (ResV_agg _ _ _ _ _ _ Tryz.isAgg26 Tryz.sizeOf26 rfl rfl (colD_take _) (colD_length _)) (.cons (ResV_tmp _ _ rfl) .nil)), rfl, rfl, rfl, rfl, rfl⟩

-- loop.example/g01362/spec.l01Near
def spec_l01Near (p0 : Src) (p1 : Int) : Option (Int × Src) :=
 (spec_l01Next p0 14).bind fun r1 => (if decide (r1.1 = 0) then (spec_l01Pick r1.2 ([(-1), w64 (p1 + 1), 1099511627776, (-4611686018427387904)])).bind fun r3 => some (r3.1, r3.2) else (spec_l01Next r1.2 (w64 (p1 + 1))).bind fun r4 => some (r4.1, r4.2))
set_option maxRecDepth 100000 in
theorem spec_l01Near_ac (p0 : Src) (p1 : Int) (r : Int × Src) (h : spec_l01Near p0 p1 = some r) : AC Tryz.prog 95 [.ptr 0 0, iV p1] [.box (srcD p0)] (fun res H' => res = [iV r.1] ∧ H' = [.box (srcD r.2)]) := by
 refine AC_of_body true Tryz.func95 rfl Tryz.ntmps95 (rvs := [.tmp 4]) rfl rfl (fun G hG => ?_)
 have hm : G.H.length = 1 := by rw [hG]; rfl
 have hz : zeroG G.H = true := by rw [hG]; rfl
 unfold spec_l01Near at h
 refine kR ?_
 refine kN 1 rfl ?_
 refine ACode_seq ?_
 refine kR ?_
 refine kM 1 rfl ?_
 obtain ⟨r1, hr1, h⟩ := bindO h
 refine kC [0] 6 (iV r1.1) [.box (srcD r1.2)] rfl Tryz.call66 rfl rfl (spec_l01Next_ac p0 14 _ hr1) rfl ?_
 refine AOps_q 7 _ rfl rfl rfl (QOp_eql _ _ _ _ _ _ _ rfl rfl rfl) ?_
 refine AOps_nil ?_
 refine kI h rfl (fun h _ => ?_) (fun h _ => ?_)
 ·refine kR ?_
  refine kM 2 rfl ?_
  refine AOps_q 10 _ rfl rfl rfl (QOp_add _ _ _ _ _ _ _ rfl rfl rfl) ?_
  refine AOps_buildSlice 11 _ _ _ [_, _, _, _] (intsD ([(-1), w64 (p1 + 1), 1099511627776, (-4611686018427387904)])) _ rfl rfl rfl rfl rfl (by decide) Tryz.underlying27 Tryz.sizeOf2 (zero_of Tryz.typeInfo2 rfl) rfl rfl (intsD_one _) ?_
  refine AOps_freezeL [11] 1 0 _ (allc (rfl) (fun _ h => nomatch h)) rfl ?_
  obtain ⟨r3, hr3, h⟩ := bindO h
  refine kC [0] 12 (iV r3.1) [.box (srcD r3.2), .gone] rfl Tryz.call67 rfl rfl (spec_l01Pick_ac r1.2 ([(-1), w64 (p1 + 1), 1099511627776, (-4611686018427387904)]) _ hr3) rfl ?_
  refine kN 1 rfl ?_
  refine ACode_ret ?_
  cases h
  exact ⟨_, _, fun r a w h => ⟨r, h⟩, _, _, [], _, (.cons (ResV_tmp _ _ rfl) .nil), rfl, rfl, rfl, rfl, rfl⟩
 refine ACode_skip ?_
 refine kR ?_
 refine kM 2 rfl ?_
 refine AOps_q 15 _ rfl rfl rfl (QOp_add _ _ _ _ _ _ _ rfl rfl rfl) ?_
 obtain ⟨r4, hr4, h⟩ := bindO h
 refine kC [0] 16 (iV r4.1) [.box (srcD r4.2)] rfl Tryz.call66 rfl rfl (spec_l01Next_ac r1.2 (w64 (p1 + 1)) _ hr4) rfl ?_
 refine kN 1 rfl ?_
 refine ACode_ret ?_
 cases h
 exact ⟨_, _, fun r a w h => ⟨r, h⟩, _, _, [], _, (.cons (ResV_tmp _ _ rfl) .nil), rfl, rfl, rfl, rfl, rfl⟩

-- loop.example/g01362/spec.DrawTurnColouring
def spec_DrawTurnColouring (k : Nat) (p0 : List UInt8) : Option (Col × Int) :=
 (spec_l01From k p0).bind fun r1 => (spec_l03Draw k r1).bind fun r2 => (spec_l01Near r2.2 16).bind fun r3 => (spec_l01Pick r3.2 ([1, 2, 3, 4, 5, 7, r3.1])).bind fun r4 => some (r2.1, r4.1)
set_option maxRecDepth 100000 in
theorem spec_DrawTurnColouring_ac (k : Nat) (p0 : List UInt8) (r : Col × Int) (h : spec_DrawTurnColouring k p0 = some r) : AC Tryz.prog 54 [.d (.sl none (bysD p0))] [] (fun res H' => res = [.d (.agg (colD r.1)), iV r.2] ∧ H' = []) := by
 refine AC_of_body true Tryz.func54 rfl Tryz.ntmps54 (rvs := [.cell 2 26, .tmp 3]) rfl rfl (fun G hG => ?_)
 have hm : G.H.length = 0 := by rw [hG]; rfl
 have hz : zeroG G.H = true := by rw [hG]; rfl
 unfold spec_DrawTurnColouring at h
 refine kR ?_
 refine AOps_alloc 2 _ _ (colD Col.zero) (zero_of Tryz.typeInfo26 rfl) (by rfl) rfl rfl rfl rfl ?_
 refine kN 1 rfl ?_
 refine kR ?_
 refine kM 1 rfl ?_
 obtain ⟨r1, hr1, h⟩ := bindO h
 refine kC [] 7 (.ptr 1 0) [.box (colD Col.zero), .box (srcD r1)] rfl Tryz.call64 rfl rfl (spec_l01From_ac k p0 _ hr1) rfl ?_
 refine kN 1 rfl ?_
 refine kR ?_
 refine kM 1 rfl ?_
 obtain ⟨r2, hr2, h⟩ := bindO h
 refine kC [1] 9 (.d (.agg (colD r2.1))) [.box (colD Col.zero), .box (srcD r2.2)] rfl Tryz.call117 rfl rfl (spec_l03Draw_ac k r1 _ hr2) rfl ?_
 refine AOps_alloc 5 _ _ (colD Col.zero) (zero_of Tryz.typeInfo26 rfl) (by rfl) rfl rfl rfl rfl ?_
 refine AOps_store _ _ _ _ _ _ (colD _) _ _ rfl rfl rfl rfl rfl rfl rfl (colD_one _) (by rw [colD_length]; exact Tryz.sizeOf26) (by rw [colD_length, colD_length]; decide) (colD_whole _ _) ?_
 refine AOps_nil ?_
 obtain ⟨r3, hr3, h⟩ := bindO h
 obtain ⟨r4, hr4, h⟩ := bindO h
 refine ACode_seq (ACode_reg [(2, .ptr 0 0), (3, iV r4.1)] [.box (colD r2.1)] ?_ ?_)
 ·refine ACode_anyU mixed ?_
  refine AU_cut 2 #[true, true, true, true, true, true, false, false] [(2, .ptr 0 0), (3, iV 0), (10, .d (.agg (colD r2.1))), (15, iV r4.1)] [.box (colD Col.zero)] ?_ (fun hS0 => ?_)
  ·refine AU_one 6 (by kernel_rfl) rfl rfl ?_
   refine AOps_store _ _ _ _ _ _ (colD _) _ _ rfl rfl rfl rfl rfl rfl rfl (colD_one _) (by rw [colD_length]; exact Tryz.sizeOf26) (by rw [colD_length, colD_length]; decide) (colD_whole _ _) ?_
   refine AOps_nil ?_
   refine AU_u 7 3 _ rfl (by kernel_rfl) rfl rfl rfl (UOp_assign _ _ rfl rfl) ?_
   refine AU_done (by kernel_rfl) ?_
   exact ⟨rfl, Weak_keep 0 hm [2, 3] [0] _ _ rfl rfl rfl⟩
  refine AU_cut 3 #[true, true, true, true, true, false, false, false] [(2, .ptr 0 0), (3, iV 0), (10, .d (.agg (colD r2.1))), (11, .ptr 1 0), (14, .vec 2 0)] [.box (colD Col.zero), .box (srcD r3.2), .vec 0 (intsD ([1, 2, 3, 4, 5, 7, r3.1]))] ?_ (fun hS1 => ?_)
  ·refine AU_one 5 (by kernel_rfl) rfl rfl ?_
   refine AOps_freezeL [14] 2 0 _ (allc (rfl) (fun _ h => nomatch h)) rfl ?_
   refine kC [1] 15 (iV r4.1) [.box (colD Col.zero), .box (srcD r4.2), .gone] rfl Tryz.call67 rfl rfl (spec_l01Pick_ac r3.2 ([1, 2, 3, 4, 5, 7, r3.1]) _ hr4) rfl ?_
   refine AOps_nil ?_
   exact AU_to (by kernel_rfl) hS0 (Weak_keep 0 hm [2, 3, 10, 15] [0] _ _ rfl rfl rfl)
  refine AU_cut 4 #[true, true, true, true, false, false, false, false] [(2, .ptr 0 0), (3, iV 0), (10, .d (.agg (colD r2.1))), (11, .ptr 1 0), (13, iV r3.1)] [.box (colD Col.zero), .box (srcD r3.2)] ?_ (fun hS2 => ?_)
  ·refine AU_one 4 (by kernel_rfl) rfl rfl ?_
   refine AOps_buildSlice 14 _ _ _ [_, _, _, _, _, _, _] (intsD ([1, 2, 3, 4, 5, 7, r3.1])) _ rfl rfl rfl rfl rfl (by decide) Tryz.underlying27 Tryz.sizeOf2 (zero_of Tryz.typeInfo2 rfl) rfl rfl (intsD_one _) ?_
   refine AOps_nil ?_
   exact AU_to (by kernel_rfl) hS1 (Weak_keep 0 hm [2, 3, 10, 11, 14] [0, 1, 2] _ _ rfl rfl rfl)
  refine AU_u 1 11 _ rfl (by kernel_rfl) rfl rfl rfl (UOp_move _ _ rfl rfl) ?_
  refine AU_u 2 12 _ rfl (by kernel_rfl) rfl rfl rfl (UOp_move _ _ rfl rfl) ?_
  refine AU_all [0, 3] (by kernel_rfl) rfl (allc ?_ (allc ?_ (fun _ h => nomatch h)))
  ·refine US_of 0 rfl rfl ?_
   refine AOps_q 10 _ rfl rfl rfl (QOp_loadN_ptr _ _ _ _ _ _ _ rfl Tryz.isAgg26 Tryz.sizeOf26 rfl rfl (colD_all _) (colD_length _)) ?_
   refine AOps_nil ?_
   refine AU_one 3 (by kernel_rfl) rfl rfl ?_
   refine kC [1] 13 (iV r3.1) [.box (colD Col.zero), .box (srcD r3.2), .box (colD r2.1)] rfl Tryz.call95 rfl rfl (spec_l01Near_ac r2.2 16 _ hr3) rfl ?_
   refine AOps_nil ?_
   exact AU_to (by kernel_rfl) hS2 (Weak_keep 0 hm [2, 3, 10, 11, 13] [0, 1] _ _ rfl rfl rfl)
  refine US_of 3 rfl rfl ?_
  refine kC [1] 13 (iV r3.1) [.box (colD Col.zero), .box (srcD r3.2), .box (colD r2.1)] rfl Tryz.call95 rfl rfl (spec_l01Near_ac r2.2 16 _ hr3) rfl ?_
  refine AOps_nil ?_
  refine AU_all [0, 4] (by kernel_rfl) rfl (allc ?_ (allc ?_ (fun _ h => nomatch h)))
  ·refine US_of 0 rfl rfl ?_
   refine AOps_q 10 _ rfl rfl rfl (QOp_loadN_ptr _ _ _ _ _ _ _ rfl Tryz.isAgg26 Tryz.sizeOf26 rfl rfl (colD_all _) (colD_length _)) ?_
   refine AOps_nil ?_
   exact AU_to (by kernel_rfl) hS2 (Weak_keep 0 hm [2, 3, 10, 11, 13] [0, 1] _ _ rfl rfl rfl)
  refine US_of 4 rfl rfl ?_
  refine AOps_buildSlice 14 _ _ _ [_, _, _, _, _, _, _] (intsD ([1, 2, 3, 4, 5, 7, r3.1])) _ rfl rfl rfl rfl rfl (by decide) Tryz.underlying27 Tryz.sizeOf2 (zero_of Tryz.typeInfo2 rfl) rfl rfl (intsD_one _) ?_
  refine AOps_nil ?_
  refine AU_all [0, 5] (by kernel_rfl) rfl (allc ?_ (allc ?_ (fun _ h => nomatch h)))
  ·refine US_of 0 rfl rfl ?_
   refine AOps_q 10 _ rfl rfl rfl (QOp_loadN_ptr _ _ _ _ _ _ _ rfl Tryz.isAgg26 Tryz.sizeOf26 rfl rfl (colD_all _) (colD_length _)) ?_
   refine AOps_nil ?_
   exact AU_to (by kernel_rfl) hS1 (Weak_keep 0 hm [2, 3, 10, 11, 14] [0, 1, 3] _ _ rfl rfl rfl)
  refine US_of 5 rfl rfl ?_
  refine AOps_freezeL [14] 3 0 _ (allc (rfl) (fun _ h => nomatch h)) rfl ?_
  refine kC [1] 15 (iV r4.1) [.box (colD Col.zero), .box (srcD r4.2), .box (colD r2.1), .gone] rfl Tryz.call67 rfl rfl (spec_l01Pick_ac r3.2 ([1, 2, 3, 4, 5, 7, r3.1]) _ hr4) rfl ?_
  refine AOps_nil ?_
  refine AU_one 0 (by kernel_rfl) rfl rfl ?_
  refine AOps_q 10 _ rfl rfl rfl (QOp_loadN_ptr _ _ _ _ _ _ _ rfl Tryz.isAgg26 Tryz.sizeOf26 rfl rfl (colD_all _) (colD_length _)) ?_
  refine AOps_nil ?_
  exact AU_to (by kernel_rfl) hS0 (Weak_keep 0 hm [2, 3, 10, 15] [0] _ _ rfl rfl rfl)
 refine ACode_ret ?_
 cases h
 exact ⟨_, _, fun r a w h => ⟨r, h⟩, _, _, [], _, (.cons (ResV_agg _ _ _ _ _ _ Tryz.isAgg26 Tryz.sizeOf26 rfl rfl (colD_take _) (colD_length _)) (.cons (ResV_tmp _ _ rfl) .nil)), rfl, rfl, rfl, rfl, rfl⟩

-- loop.example/g01362/spec.TurnColouring
def spec_TurnColouring_l0 (p0 : Col) (p1 : Int) : Nat → Int → (List Int) → Option (List Int)
 | 0, _, _ => none
 | k0 + 1, x9, x10 => (if decide (x9 < p0.p) then (if p0.p ≠ 0 then (if x10.length + ([(w64 (p1 * x9)).tmod p0.p]).length ≤ 1099511627776 then spec_TurnColouring_l0 p0 p1 k0 (w64 (x9 + 1)) (x10 ++ ([(w64 (p1 * x9)).tmod p0.p])) else none) else none) else some x10)
def spec_TurnColouring (k : Nat) (p0 : Col) (p1 : Int) : Option (Col × Int) :=
 (spec_l01Is k p0).bind fun r1 => (if !r1 then some ((⟨0, 0, B136.zero⟩ : Col), 1) else (((if !(spec_l01In p1 1 (if w64 (p0.p - 1) < 1 then 1 else w64 (p0.p - 1))) then some true else (spec_l03Gcd k p1 p0.p).bind fun r5 => some (!decide (r5 = 1))) : Option (Bool)).bind fun s6 => (if s6 then some (.inr ((⟨0, 0, B136.zero⟩ : Col), 2)) else some (.inl ())) : Option (Sum (Unit) (Col × Int))).bind fun os8 => (match os8 with | .inl s8 => (spec_TurnColouring_l0 p0 p1 k 0 ([] : List Int) : Option (List Int)).bind fun s14 => (spec_l01Renamed k p0 s14).bind fun r15 => some (r15, 0) | .inr rr => some rr))
set_option maxRecDepth 100000 in
theorem spec_TurnColouring_ac (k : Nat) (p0 : Col) (p1 : Int) (r : Col × Int) (h : spec_TurnColouring k p0 p1 = some r) : AC Tryz.prog 55 [.d (.agg (colD p0)), iV p1] [] (fun res H' => res = [.d (.agg (colD r.1)), iV r.2] ∧ H' = []) := by
 refine AC_of_body true Tryz.func55 rfl Tryz.ntmps55 (rvs := [.cell 4 26, .tmp 5]) rfl rfl (fun G hG => ?_)
 have hm : G.H.length = 0 := by rw [hG]; rfl
 have hz : zeroG G.H = true := by rw [hG]; rfl
 unfold spec_TurnColouring at h
 refine kR ?_
 refine AOps_boxI 2 _ _ (.agg (colD p0)) (colD p0) rfl (colD_one _) rfl rfl rfl rfl rfl ?_
 refine AOps_alloc 4 _ _ (colD Col.zero) (zero_of Tryz.typeInfo26 rfl) (by rfl) rfl rfl rfl rfl ?_
 refine kN 1 rfl ?_
 refine ACode_seq ?_
 refine kR ?_
 refine AOps_q 8 _ rfl rfl rfl (QOp_loadN_pv _ _ _ _ _ _ rfl Tryz.isAgg26 Tryz.sizeOf26 rfl (colD_all _) (colD_length _)) ?_
 obtain ⟨r1, hr1, h⟩ := bindO h
 refine kC [] 9 (bV r1) [.box (colD Col.zero)] rfl Tryz.call73 rfl rfl (spec_l01Is_ac k p0 _ hr1) rfl ?_
 refine AOps_q 10 _ rfl rfl rfl (QOp_not _ _ _ rfl rfl) ?_
 refine AOps_nil ?_
 refine kI h rfl (fun h _ => ?_) (fun h _ => ?_)
 ·refine kR ?_
  refine AOps_q 11 _ rfl rfl rfl (QOp_build _ _ [] [] [] _ (colD Col.zero) (colD (⟨0, 0, B136.zero⟩ : Col)) [(0, 1), (1, 1), (2, 136)] rfl rfl Tryz.underlying26 (zero_of Tryz.typeInfo26 rfl) (fun w => by simp [Tryz.sizeOf2, Tryz.sizeOf2, Tryz.sizeOf24]) rfl (by rfl) (by rfl) (fun _ h => nomatch h)) ?_
  refine AOps_store _ _ _ _ _ _ (colD _) _ _ rfl rfl rfl rfl rfl rfl rfl (colD_one _) (by rw [colD_length]; exact Tryz.sizeOf26) (by rw [colD_length, colD_length]; decide) (colD_whole _ _) ?_
  refine kN 1 rfl ?_
  refine ACode_ret ?_
  cases h
  exact ⟨_, _, fun r a w h => ⟨r, h⟩, _, _, [], _, (.cons (ResV_agg _ _ _ _ _ _ Tryz.isAgg26 Tryz.sizeOf26 rfl rfl (colD_take _) (colD_length _)) (.cons (ResV_tmp _ _ rfl) .nil)), rfl, rfl, rfl, rfl, rfl⟩
 refine ACode_skip ?_
 refine kO (fun s8 => [(1, iV p1), (2, .d (.pv (colD p0) 0)), (4, .ptr 0 0)]) (fun s8 => [.box (colD Col.zero)]) h (fun os8 h hks8 => ?_) (fun s8 h => ?_)
 ·refine kB (fun s6 => [(1, iV p1), (2, .d (.pv (colD p0) 0)), (4, .ptr 0 0), (25, bV s6)]) (fun s6 => [.box (colD Col.zero)]) h (fun s6 h => ?_) (fun s6 h => ?_)
  ·refine (ACode_region ?_)
   refine kM 1 rfl ?_
   refine AOps_q 13 _ rfl rfl rfl (QOp_fieldAddr_pv _ _ _ _ _ 0 _ _ rfl Tryz.underlying26 rfl _ Tryz.sizeOf2 rfl rfl) ?_
   refine AOps_q 14 _ rfl rfl rfl (QOp_load_pv _ _ _ _ _ rfl Tryz.isAgg2 rfl rfl) ?_
   refine AOps_q 15 _ rfl rfl rfl (QOp_sub _ _ _ _ _ _ _ rfl rfl rfl) ?_
   refine AOps_q 16 _ rfl rfl rfl (QOp_max _ _ _ _ _ _ rfl rfl rfl rfl rfl) ?_
   refine kC [] 17 (bV (spec_l01In p1 1 (if w64 (p0.p - 1) < 1 then 1 else w64 (p0.p - 1)))) [.box (colD Col.zero)] rfl Tryz.call100 rfl rfl (spec_l01In_ac p1 1 (if w64 (p0.p - 1) < 1 then 1 else w64 (p0.p - 1))) rfl ?_
   refine AOps_q 18 _ rfl rfl rfl (QOp_not _ _ _ rfl rfl) ?_
   refine kM 1 rfl ?_
   refine AOps_case 19 _ rfl (fun hb4 => ?_) (fun hb4 => ?_)
   ·have h := iteT hb4 h
    refine AOps_skip 20 rfl rfl rfl ?_
    refine AOps_skip 21 rfl rfl rfl ?_
    refine AOps_skip 22 rfl rfl rfl ?_
    refine AOps_skip 23 rfl rfl rfl ?_
    refine AOps_skip 24 rfl rfl rfl ?_
    refine kN 1 rfl ?_
    cases h
    exact Weak_keep 0 hm [1, 2, 4, 25] [0] _ _ rfl rfl rfl
   have h := iteF hb4 h
   refine kM 1 rfl ?_
   refine AOps_q 21 _ rfl rfl rfl (QOp_fieldAddr_pv _ _ _ _ _ 0 _ _ rfl Tryz.underlying26 rfl _ Tryz.sizeOf2 rfl rfl) ?_
   refine AOps_q 22 _ rfl rfl rfl (QOp_load_pv _ _ _ _ _ rfl Tryz.isAgg2 rfl rfl) ?_
   obtain ⟨r5, hr5, h⟩ := bindO h
   refine kC [] 23 (iV r5) [.box (colD Col.zero)] rfl Tryz.call122 rfl rfl (spec_l03Gcd_ac k p1 p0.p _ hr5) rfl ?_
   refine AOps_q 24 _ rfl rfl rfl (QOp_neq _ _ _ _ _ _ _ rfl rfl rfl) ?_
   refine kN 1 rfl ?_
   cases h
   exact Weak_keep 0 hm [1, 2, 4, 25] [0] _ _ rfl rfl rfl
  refine kI h rfl (fun h _ => ?_) (fun h _ => ?_)
  ·refine kR ?_
   refine AOps_q 26 _ rfl rfl rfl (QOp_build _ _ [] [] [] _ (colD Col.zero) (colD (⟨0, 0, B136.zero⟩ : Col)) [(0, 1), (1, 1), (2, 136)] rfl rfl Tryz.underlying26 (zero_of Tryz.typeInfo26 rfl) (fun w => by simp [Tryz.sizeOf2, Tryz.sizeOf2, Tryz.sizeOf24]) rfl (by rfl) (by rfl) (fun _ h => nomatch h)) ?_
   refine AOps_store _ _ _ _ _ _ (colD _) _ _ rfl rfl rfl rfl rfl rfl rfl (colD_one _) (by rw [colD_length]; exact Tryz.sizeOf26) (by rw [colD_length, colD_length]; decide) (colD_whole _ _) ?_
   refine kN 1 rfl ?_
   refine ACode_ret ?_
   cases h
   have h := hks8
   cases h
   exact ⟨_, _, fun r a w h => ⟨r, h⟩, _, _, [], _, (.cons (ResV_agg _ _ _ _ _ _ Tryz.isAgg26 Tryz.sizeOf26 rfl rfl (colD_take _) (colD_length _)) (.cons (ResV_tmp _ _ rfl) .nil)), rfl, rfl, rfl, rfl, rfl⟩
  refine ACode_skip ?_
  cases h
  exact ⟨_, rfl, Weak_keep 0 hm [1, 2, 4] [0] _ _ rfl rfl rfl⟩
 refine kR ?_
 refine AOps_buildSlice 27 _ _ _ [] (intsD ([] : List Int)) _ rfl rfl rfl rfl rfl (by decide) Tryz.underlying27 Tryz.sizeOf2 (zero_of Tryz.typeInfo2 rfl) rfl rfl (intsD_one _) ?_
 refine kN 1 rfl ?_
 refine kB (fun s14 => [(2, .d (.pv (colD p0) 0)), (4, .ptr 0 0), (6, .vec 1 0)]) (fun s14 => [.box (colD Col.zero), .vec 0 (intsD s14)]) h (fun s14 h => ?_) (fun s14 h => ?_)
 ·refine kR ?_
  refine kN 1 rfl ?_
  refine ACode_block ?_
  refine ACode_loopW (fun k0 E H => ∃ (x9 : Int) (x10 : List Int), E = [(1, iV p1), (2, .d (.pv (colD p0) 0)), (4, .ptr 0 0), (6, .vec 1 0), (7, iV x9)] ∧ H = [.box (colD Col.zero), .vec 0 (intsD x10)] ∧ spec_TurnColouring_l0 p0 p1 k0 x9 x10 = some s14) k _ _ (Weak_keep 0 hm [1, 2, 4, 6, 7] [0, 1] _ _ rfl rfl rfl) ⟨_, _, rfl, rfl, h⟩ ?_
  clear h
  rintro k0 E H ⟨x9, x10, rfl, rfl, h⟩
  cases k0 with
  | zero => cases (show (none : Option (List Int)) = some _ from h)
  | succ k0 =>
   rw [spec_TurnColouring_l0] at h
   refine ACode_seq ?_
   refine kR ?_
   refine kM 1 rfl ?_
   refine AOps_q 29 _ rfl rfl rfl (QOp_fieldAddr_pv _ _ _ _ _ 0 _ _ rfl Tryz.underlying26 rfl _ Tryz.sizeOf2 rfl rfl) ?_
   refine AOps_q 30 _ rfl rfl rfl (QOp_load_pv _ _ _ _ _ rfl Tryz.isAgg2 rfl rfl) ?_
   refine AOps_q 31 _ rfl rfl rfl (QOp_lss _ _ _ _ _ _ _ rfl rfl rfl) ?_
   refine AOps_nil ?_
   refine kI h rfl (fun h _ => ?_) (fun h _ => ?_)
   ·refine ACode_skip ?_
    refine ACode_seq ?_
    refine ACode_block ?_
    refine (ACode_region ?_)
    refine kM 3 rfl ?_
    refine AOps_q 37 _ rfl rfl rfl (QOp_mul _ _ _ _ _ _ _ rfl rfl rfl) ?_
    refine AOps_q 38 _ rfl rfl rfl (QOp_fieldAddr_pv _ _ _ _ _ 0 _ _ rfl Tryz.underlying26 rfl _ Tryz.sizeOf2 rfl rfl) ?_
    refine AOps_q 39 _ rfl rfl rfl (QOp_load_pv _ _ _ _ _ rfl Tryz.isAgg2 rfl rfl) ?_
    obtain ⟨hc12, h⟩ := guardO h
    refine AOps_q 40 _ rfl rfl rfl (QOp_rem _ _ _ _ _ _ _ hc12 rfl rfl rfl) ?_
    refine AOps_buildSlice 41 _ _ _ [_] (intsD ([(w64 (p1 * x9)).tmod p0.p])) _ rfl rfl rfl rfl rfl (by decide) Tryz.underlying27 Tryz.sizeOf2 (zero_of Tryz.typeInfo2 rfl) rfl rfl (intsD_one _) ?_
    obtain ⟨hc13, h⟩ := guardO h
    refine AOps_append 42 _ _ _ _ _ _ _ _ _ _ _ _ rfl rfl rfl rfl rfl rfl rfl Tryz.underlying27 Tryz.type2 rfl rfl rfl (by decide) rfl rfl rfl rfl (intsD_one _) (by rw [intsD_length, intsD_length]; exact hc13) ?_
    rw [intsD_app]
    refine kN 1 rfl ?_
    refine (ACode_region ?_)
    refine kM 1 rfl ?_
    refine AOps_q 33 _ rfl rfl rfl (QOp_add _ _ _ _ _ _ _ rfl rfl rfl) ?_
    refine kN 1 rfl ?_
    exact ⟨k0, _, _, Nat.lt_succ_self _, Weak_trans (Weak_keep 0 hm [1, 2, 4, 6, 7] [0, 1] _ _ rfl rfl rfl) (Weak_reset 0 hm hz [1, 2, 4, 6, 7] _ _ rfl rfl), _, _, rfl, rfl, h⟩
   refine ACode_exit ?_
   cases h
   exact Weak_keep 0 hm [2, 4, 6] [0, 1] _ _ rfl rfl rfl
 refine kR ?_
 refine AOps_q 43 _ rfl rfl rfl (QOp_loadN_pv _ _ _ _ _ _ rfl Tryz.isAgg26 Tryz.sizeOf26 rfl (colD_all _) (colD_length _)) ?_
 refine kM 1 rfl ?_
 obtain ⟨r15, hr15, h⟩ := bindO h
 refine AOps_callL [] 45 _ _ _ _ _ _ _ _ _ _ rfl rfl rfl rfl rfl rfl rfl Tryz.call88 rfl (nodupB_sound _ rfl) rfl rfl rfl (spec_l01Renamed_ac k p0 s14 _ hr15) ?_
 rintro _ _ ⟨rfl, rfl⟩
 refine ⟨(fun _ h => nomatch h), (allc (flat_agg (colD_flat _)) (fun _ h => nomatch h)), AOps_as 45 (v' := .d (.agg (colD r15))) (H' := [.box (colD Col.zero), .vec 0 (intsD s14)]) rfl rfl ?_⟩
 refine AOps_store _ _ _ _ _ _ (colD _) _ _ rfl rfl rfl rfl rfl rfl rfl (colD_one _) (by rw [colD_length]; exact Tryz.sizeOf26) (by rw [colD_length, colD_length]; decide) (colD_whole _ _) ?_
 refine kN 1 rfl ?_
 refine ACode_ret ?_
 cases h
 exact ⟨_, _, fun r a w h => ⟨r, h⟩, _, _, [], _, (.cons (ResV_agg _ _ _ _ _ _ Tryz.isAgg26 Tryz.sizeOf26 rfl rfl (colD_take _) (colD_length _)) (.cons (ResV_tmp _ _ rfl) .nil)), rfl, rfl, rfl, rfl, rfl⟩

-- loop.example/g01362/spec.DrawBySquares
def spec_DrawBySquares (k : Nat) (p0 : List UInt8) : Option (Int) :=
 (spec_l01From k p0).bind fun r1 => (spec_l01Pick r1 ([5, 13, 17, 7, 9, 1, 29])).bind fun r2 => some r2.1
set_option maxRecDepth 100000 in
theorem spec_DrawBySquares_ac (k : Nat) (p0 : List UInt8) (r : Int) (h : spec_DrawBySquares k p0 = some r) : AC Tryz.prog 56 [.d (.sl none (bysD p0))] [] (fun res H' => res = [iV r] ∧ H' = []) := by
 refine AC_of_body true Tryz.func56 rfl Tryz.ntmps56 (rvs := [.tmp 2]) rfl rfl (fun G hG => ?_)
 have hm : G.H.length = 0 := by rw [hG]; rfl
 have hz : zeroG G.H = true := by rw [hG]; rfl
 unfold spec_DrawBySquares at h
 refine kR ?_
 refine kN 1 rfl ?_
 refine kR ?_
 refine kM 1 rfl ?_
 obtain ⟨r1, hr1, h⟩ := bindO h
 refine kC [] 4 (.ptr 0 0) [.box (srcD r1)] rfl Tryz.call64 rfl rfl (spec_l01From_ac k p0 _ hr1) rfl ?_
 refine AOps_buildSlice 5 _ _ _ [_, _, _, _, _, _, _] (intsD ([5, 13, 17, 7, 9, 1, 29])) _ rfl rfl rfl rfl rfl (by decide) Tryz.underlying27 Tryz.sizeOf2 (zero_of Tryz.typeInfo2 rfl) rfl rfl (intsD_one _) ?_
 refine AOps_freezeL [5] 1 0 _ (allc (rfl) (fun _ h => nomatch h)) rfl ?_
 obtain ⟨r2, hr2, h⟩ := bindO h
 refine kC [0] 6 (iV r2.1) [.box (srcD r2.2), .gone] rfl Tryz.call67 rfl rfl (spec_l01Pick_ac r1 ([5, 13, 17, 7, 9, 1, 29]) _ hr2) rfl ?_
 refine kN 1 rfl ?_
 refine ACode_ret ?_
 cases h
 exact ⟨_, _, fun r a w h => ⟨r, h⟩, _, _, [], _, (.cons (ResV_tmp _ _ rfl) .nil), rfl, rfl, rfl, rfl, rfl⟩

-- slices.Index[[]int64,int64]
def slices_Index_l0 (p0 : List Int) (p1 : Int) : Nat → Int → Option (Sum (Unit) (Int))
 | 0, _ => none
 | k0 + 1, x1 => (if decide (x1 < (p0.length : Int)) then (if 0 ≤ x1 ∧ x1 < (p0.length : Int) then (if decide (p1 = (p0.getD x1.toNat 0)) then some (.inr x1) else slices_Index_l0 p0 p1 k0 (w64 (x1 + 1))) else none) else some (.inl ()))
def slices_Index (k : Nat) (p0 : List Int) (p1 : Int) : Option (Int) :=
 (slices_Index_l0 p0 p1 k 0 : Option (Sum (Unit) (Int))).bind fun os5 => (match os5 with | .inl s5 => some (-1) | .inr rr => some rr)
set_option maxRecDepth 100000 in
theorem slices_Index_ac (k : Nat) (p0 : List Int) (p1 : Int) (r : Int) (h : slices_Index k p0 p1 = some r) : AC Tryz.prog 182 [.d (.sl none (intsD p0)), iV p1] [] (fun res H' => res = [iV r] ∧ H' = []) := by
 refine AC_of_body true Tryz.func182 rfl Tryz.ntmps182 (rvs := [.tmp 4]) rfl rfl (fun G hG => ?_)
 have hm : G.H.length = 0 := by rw [hG]; rfl
 have hz : zeroG G.H = true := by rw [hG]; rfl
 unfold slices_Index at h
 refine kR ?_
 refine kN 1 rfl ?_
 refine kO (fun s5 => []) (fun s5 => []) h (fun os5 h hks5 => ?_) (fun s5 h => ?_)
 ·refine kR ?_
  refine kM 1 rfl ?_
  refine AOps_q 7 _ rfl rfl rfl (QOp_len_sl _ _ _ _ _ _ _ (intsD_length _) rfl rfl rfl rfl Tryz.underlying27 rfl) ?_
  refine kN 1 rfl ?_
  refine ACode_block ?_
  refine ACode_loopW (fun k0 E H => ∃ (x1 : Int), E = [(0, .d (.sl none (intsD p0))), (1, iV p1), (7, iV (p0.length : Int)), (8, iV x1)] ∧ H = [] ∧ slices_Index_l0 p0 p1 k0 x1 = some os5) k _ _ (Weak_keep 0 hm [0, 1, 7, 8] [] _ _ rfl rfl rfl) ⟨_, rfl, rfl, h⟩ ?_
  clear h
  rintro k0 E H ⟨x1, rfl, rfl, h⟩
  cases k0 with
  | zero => cases (show (none : Option (Sum (Unit) (Int))) = some _ from h)
  | succ k0 =>
   rw [slices_Index_l0] at h
   refine kR ?_
   refine AOps_q 9 _ rfl rfl rfl (QOp_lss _ _ _ _ _ _ _ rfl rfl rfl) ?_
   refine AOps_nil ?_
   refine ACode_seq ?_
   refine kI h rfl (fun h _ => ?_) (fun h _ => ?_)
   ·refine ACode_skip ?_
    refine ACode_seq ?_
    refine ACode_block ?_
    refine kR ?_
    refine kN 2 rfl ?_
    refine kR ?_
    refine kM 3 rfl ?_
    obtain ⟨hc3, h⟩ := guardO h
    refine AOps_q 14 _ rfl rfl rfl (QOp_indexAddr_sl _ _ _ _ _ _ _ _ rfl Tryz.underlying27 Tryz.sizeOf2 hc3.1 (by rw [intsD_length]; exact hc3.2) rfl rfl) ?_
    refine AOps_q 15 _ rfl rfl rfl (QOp_load_pv _ _ _ _ _ rfl Tryz.isAgg2 rfl (intsD_get _ _ 0 (by omega))) ?_
    refine AOps_q 16 _ rfl rfl rfl (QOp_eql _ _ _ _ _ _ _ rfl rfl rfl) ?_
    refine AOps_nil ?_
    refine kI h rfl (fun h _ => ?_) (fun h _ => ?_)
    ·refine kR ?_
     refine kN 2 rfl ?_
     refine ACode_ret ?_
     cases h
     have h := hks5
     cases h
     exact ⟨_, _, fun r a w h => ⟨r, h⟩, _, _, [], _, (.cons (ResV_tmp _ _ rfl) .nil), rfl, rfl, rfl, rfl, rfl⟩
    refine ACode_skip ?_
    refine (ACode_region ?_)
    refine AOps_q 18 _ rfl rfl rfl (QOp_add _ _ _ _ _ _ _ rfl rfl rfl) ?_
    refine kN 1 rfl ?_
    exact ⟨k0, _, _, Nat.lt_succ_self _, Weak_keep 0 hm [0, 1, 7, 8] [] _ _ rfl rfl rfl, _, rfl, rfl, h⟩
   refine ACode_exit ?_
   cases h
   exact ⟨_, rfl, Weak_keep 0 hm [] [] _ _ rfl rfl rfl⟩
 refine kR ?_
 refine kN 1 rfl ?_
 refine ACode_ret ?_
 cases h
 exact ⟨_, _, fun r a w h => ⟨r, h⟩, _, _, [], _, (.cons (ResV_tmp _ _ rfl) .nil), rfl, rfl, rfl, rfl, rfl⟩

-- slices.Contains[[]int64,int64]
def slices_Contains (k : Nat) (p0 : List Int) (p1 : Int) : Option (Bool) :=
 (slices_Index k p0 p1).bind fun r1 => some (decide (0 ≤ r1))
set_option maxRecDepth 100000 in
theorem slices_Contains_ac (k : Nat) (p0 : List Int) (p1 : Int) (r : Bool) (h : slices_Contains k p0 p1 = some r) : AC Tryz.prog 171 [.d (.sl none (intsD p0)), iV p1] [] (fun res H' => res = [bV r] ∧ H' = []) := by
 refine AC_of_body true Tryz.func171 rfl Tryz.ntmps171 (rvs := [.tmp 4]) rfl rfl (fun G hG => ?_)
 have hm : G.H.length = 0 := by rw [hG]; rfl
 have hz : zeroG G.H = true := by rw [hG]; rfl
 unfold slices_Contains at h
 refine kR ?_
 refine kN 1 rfl ?_
 refine kR ?_
 refine kM 2 rfl ?_
 obtain ⟨r1, hr1, h⟩ := bindO h
 refine kC [] 7 (iV r1) [] rfl Tryz.call182 rfl rfl (slices_Index_ac k p0 p1 _ hr1) rfl ?_
 refine AOps_q 8 _ rfl rfl rfl (QOp_geq _ _ _ _ _ _ _ rfl rfl rfl) ?_
 refine kN 1 rfl ?_
 refine ACode_ret ?_
 cases h
 exact ⟨_, _, fun r a w h => ⟨r, h⟩, _, _, [], _, (.cons (ResV_tmp _ _ rfl) .nil), rfl, rfl, rfl, rfl, rfl⟩

-- loop.example/g01362/impl.byDifference$1
def impl_byDifference_c1 (k : Nat) (p0 : Int) (p1 : Int) (p2 : List Int) (p3 : Int) : Option (Int) :=
 (((slices_Contains k p2 (w64 (p1 - p0))).bind fun r1 => (if r1 then some true else (slices_Contains k p2 (w64 ((w64 (p3 - p1)) + p0))).bind fun r3 => some r3) : Option (Bool)).bind fun s4 => (if s4 then some (.inr 0) else some (.inl ())) : Option (Sum (Unit) (Int))).bind fun os6 => (match os6 with | .inl s6 => some 1 | .inr rr => some rr)
set_option maxRecDepth 100000 in
theorem impl_byDifference_c1_ac (k : Nat) (p0 : Int) (p1 : Int) (p2 : List Int) (p3 : Int) (r : Int) (h : impl_byDifference_c1 k p0 p1 p2 p3 = some r) : AC Tryz.prog 170 [iV p0, iV p1, .d (.pv ([.sl none (intsD p2)]) 0), .d (.pv ([iD p3]) 0)] [] (fun res H' => res = [iV r] ∧ H' = []) := by
 refine AC_of_body true Tryz.func170 rfl Tryz.ntmps170 (rvs := [.tmp 6]) rfl rfl (fun G hG => ?_)
 have hm : G.H.length = 0 := by rw [hG]; rfl
 have hz : zeroG G.H = true := by rw [hG]; rfl
 unfold impl_byDifference_c1 at h
 refine kR ?_
 refine kN 1 rfl ?_
 refine kO (fun s6 => []) (fun s6 => []) h (fun os6 h hks6 => ?_) (fun s6 h => ?_)
 ·refine kB (fun s4 => [(20, bV s4)]) (fun s4 => []) h (fun s4 h => ?_) (fun s4 h => ?_)
  ·refine (ACode_region ?_)
   refine AOps_q 7 _ rfl rfl rfl (QOp_load_pv _ _ _ _ _ rfl Tryz.isAgg27 rfl rfl) ?_
   refine kM 2 rfl ?_
   refine AOps_q 10 _ rfl rfl rfl (QOp_sub _ _ _ _ _ _ _ rfl rfl rfl) ?_
   obtain ⟨r1, hr1, h⟩ := bindO h
   refine kC [] 11 (bV r1) [] rfl Tryz.call171 rfl rfl (slices_Contains_ac k p2 (w64 (p1 - p0)) _ hr1) rfl ?_
   refine kM 1 rfl ?_
   refine AOps_case 12 _ rfl (fun hb2 => ?_) (fun hb2 => ?_)
   ·have h := iteT hb2 h
    refine AOps_skip 13 rfl rfl rfl ?_
    refine AOps_skip 14 rfl rfl rfl ?_
    refine AOps_skip 15 rfl rfl rfl ?_
    refine AOps_skip 16 rfl rfl rfl ?_
    refine AOps_skip 17 rfl rfl rfl ?_
    refine AOps_skip 18 rfl rfl rfl ?_
    refine AOps_skip 19 rfl rfl rfl ?_
    refine kN 1 rfl ?_
    cases h
    exact Weak_keep 0 hm [20] [] _ _ rfl rfl rfl
   have h := iteF hb2 h
   refine AOps_q 13 _ rfl rfl rfl (QOp_load_pv _ _ _ _ _ rfl Tryz.isAgg27 rfl rfl) ?_
   refine AOps_q 14 _ rfl rfl rfl (QOp_load_pv _ _ _ _ _ rfl Tryz.isAgg2 rfl rfl) ?_
   refine kM 1 rfl ?_
   refine AOps_q 16 _ rfl rfl rfl (QOp_sub _ _ _ _ _ _ _ rfl rfl rfl) ?_
   refine kM 1 rfl ?_
   refine AOps_q 18 _ rfl rfl rfl (QOp_add _ _ _ _ _ _ _ rfl rfl rfl) ?_
   obtain ⟨r3, hr3, h⟩ := bindO h
   refine kC [] 19 (bV r3) [] rfl Tryz.call171 rfl rfl (slices_Contains_ac k p2 (w64 ((w64 (p3 - p1)) + p0)) _ hr3) rfl ?_
   refine kN 1 rfl ?_
   cases h
   exact Weak_keep 0 hm [20] [] _ _ rfl rfl rfl
  refine kI h rfl (fun h _ => ?_) (fun h _ => ?_)
  ·refine kR ?_
   refine kN 1 rfl ?_
   refine ACode_ret ?_
   cases h
   have h := hks6
   cases h
   exact ⟨_, _, fun r a w h => ⟨r, h⟩, _, _, [], _, (.cons (ResV_tmp _ _ rfl) .nil), rfl, rfl, rfl, rfl, rfl⟩
  refine ACode_skip ?_
  cases h
  exact ⟨_, rfl, Weak_keep 0 hm [] [] _ _ rfl rfl rfl⟩
 refine kR ?_
 refine kN 1 rfl ?_
 refine ACode_ret ?_
 cases h
 exact ⟨_, _, fun r a w h => ⟨r, h⟩, _, _, [], _, (.cons (ResV_tmp _ _ rfl) .nil), rfl, rfl, rfl, rfl, rfl⟩

-- loop.example/g01362/impl.byDifference
def impl_byDifference (k : Nat) (p0 : Int) (p1 : List Int) : Option (Col) :=
 (impl_made k p0 2 (fun a0 a1 => impl_byDifference_c1 k a0 a1 p1 p0)).bind fun r1 => some r1
set_option maxRecDepth 100000 in
theorem impl_byDifference_ac (k : Nat) (p0 : Int) (p1 : List Int) (r : Col) (h : impl_byDifference k p0 p1 = some r) : AC Tryz.prog 134 [iV p0, .d (.sl none (intsD p1))] [] (fun res H' => res = [.d (.agg (colD r))] ∧ H' = []) := by
 refine AC_of_body true Tryz.func134 rfl Tryz.ntmps134 (rvs := [.cell 4 26]) rfl rfl (fun G hG => ?_)
 have hm : G.H.length = 0 := by rw [hG]; rfl
 have hz : zeroG G.H = true := by rw [hG]; rfl
 unfold impl_byDifference at h
 refine kR ?_
 refine AOps_boxI 2 _ _ (iD p0) _ rfl (fun c hc => by cases hc with | head => rfl | tail _ h => cases h) rfl rfl rfl rfl rfl ?_
 refine AOps_boxI 3 _ _ (.sl none (intsD p1)) _ rfl (fun c hc => by cases hc with | head => rfl | tail _ h => cases h) rfl rfl rfl rfl rfl ?_
 refine AOps_alloc 4 _ _ (colD Col.zero) (zero_of Tryz.typeInfo26 rfl) (by rfl) rfl rfl rfl rfl ?_
 refine AOps_nil ?_
 refine kR ?_
 refine AOps_q 5 _ rfl rfl rfl (QOp_load_pv _ _ _ _ _ rfl Tryz.isAgg2 rfl rfl) ?_
 refine AOps_q 6 _ rfl rfl rfl (QOp_makeFuncD _ _ _ _ rfl rfl rfl) ?_
 obtain ⟨r1, hr1, h⟩ := bindO h
 refine kC [] 7 (.d (.agg (colD r1))) [.box (colD Col.zero)] rfl Tryz.call148 rfl rfl (impl_made_ac k p0 2 (fun a0 a1 => impl_byDifference_c1 k a0 a1 p1 p0) 170 ([.pv ([.sl none (intsD p1)]) 0, .pv ([iD p0]) 0]) Tryz.call170 (fun a0 a1 r h => impl_byDifference_c1_ac k a0 a1 p1 p0 r h) _ hr1) rfl ?_
 refine AOps_store _ _ _ _ _ _ (colD _) _ _ rfl rfl rfl rfl rfl rfl rfl (colD_one _) (by rw [colD_length]; exact Tryz.sizeOf26) (by rw [colD_length, colD_length]; decide) (colD_whole _ _) ?_
 refine AOps_nil ?_
 refine ACode_ret ?_
 cases h
 exact ⟨_, _, fun r a w h => ⟨r, h⟩, _, _, [], _, (.cons (ResV_agg _ _ _ _ _ _ Tryz.isAgg26 Tryz.sizeOf26 rfl rfl (colD_take _) (colD_length _)) .nil), rfl, rfl, rfl, rfl, rfl⟩

-- loop.example/g01362/impl.BySquares
def impl_BySquares_l0 (p0 : Int) : Nat → Int → (List Int) → Option (List Int)
 | 0, _, _ => none
 | k0 + 1, x6, x7 => (if decide (x6 < p0) then (if p0 ≠ 0 then (if x7.length + ([(w64 (x6 * x6)).tmod p0]).length ≤ 1099511627776 then impl_BySquares_l0 p0 k0 (w64 (x6 + 1)) (x7 ++ ([(w64 (x6 * x6)).tmod p0])) else none) else none) else some x7)
def impl_BySquares (k : Nat) (p0 : Int) : Option (Col × Int) :=
 (letO (if !decide (p0 = 5) then (if !decide (p0 = 13) then !decide (p0 = 17) else false) else false) fun (s3 : Bool) => (if s3 then some (.inr ((⟨0, 0, B136.zero⟩ : Col), 2)) else some (.inl ())) : Option (Sum (Unit) (Col × Int))).bind fun os5 => (match os5 with | .inl s5 => (impl_BySquares_l0 p0 k 1 ([] : List Int) : Option (List Int)).bind fun s11 => (impl_byDifference k p0 s11).bind fun r12 => some (r12, 0) | .inr rr => some rr)
set_option maxRecDepth 100000 in
theorem impl_BySquares_ac (k : Nat) (p0 : Int) (r : Col × Int) (h : impl_BySquares k p0 = some r) : AC Tryz.prog 57 [iV p0] [] (fun res H' => res = [.d (.agg (colD r.1)), iV r.2] ∧ H' = []) := by
 refine AC_of_body true Tryz.func57 rfl Tryz.ntmps57 (rvs := [.cell 2 26, .tmp 3]) rfl rfl (fun G hG => ?_)
 have hm : G.H.length = 0 := by rw [hG]; rfl
 have hz : zeroG G.H = true := by rw [hG]; rfl
 unfold impl_BySquares at h
 refine kR ?_
 refine AOps_alloc 2 _ _ (colD Col.zero) (zero_of Tryz.typeInfo26 rfl) (by rfl) rfl rfl rfl rfl ?_
 refine kN 1 rfl ?_
 refine kO (fun s5 => [(0, iV p0), (2, .ptr 0 0)]) (fun s5 => [.box (colD Col.zero)]) h (fun os5 h hks5 => ?_) (fun s5 h => ?_)
 ·refine kL (fun s3 => [(0, iV p0), (2, .ptr 0 0), (15, bV s3)]) (fun s3 => [.box (colD Col.zero)]) h (fun s3 h => ?_) (fun s3 h => ?_)
  ·refine (ACode_region ?_)
   refine kM 1 rfl ?_
   refine AOps_q 7 _ rfl rfl rfl (QOp_neq _ _ _ _ _ _ _ rfl rfl rfl) ?_
   refine kM 1 rfl ?_
   refine AOps_case 8 _ rfl (fun hb1 => ?_) (fun hb1 => ?_)
   ·have h := iteT hb1 h
    refine kM 1 rfl ?_
    refine AOps_q 10 _ rfl rfl rfl (QOp_neq _ _ _ _ _ _ _ rfl rfl rfl) ?_
    refine kM 2 rfl ?_
    refine AOps_case 12 _ rfl (fun hb2 => ?_) (fun hb2 => ?_)
    ·have h := iteT hb2 h
     refine kM 1 rfl ?_
     refine AOps_q 14 _ rfl rfl rfl (QOp_neq _ _ _ _ _ _ _ rfl rfl rfl) ?_
     refine kN 1 rfl ?_
     cases h
     exact Weak_keep 0 hm [0, 2, 15] [0] _ _ rfl rfl rfl
    have h := iteF hb2 h
    refine AOps_skip 13 rfl rfl rfl ?_
    refine AOps_skip 14 rfl rfl rfl ?_
    refine kN 1 rfl ?_
    cases h
    exact Weak_keep 0 hm [0, 2, 15] [0] _ _ rfl rfl rfl
   have h := iteF hb1 h
   refine AOps_skip 9 rfl rfl rfl ?_
   refine AOps_skip 10 rfl rfl rfl ?_
   refine kM 2 rfl ?_
   refine AOps_skip 13 rfl rfl rfl ?_
   refine AOps_skip 14 rfl rfl rfl ?_
   refine kN 1 rfl ?_
   cases h
   exact Weak_keep 0 hm [0, 2, 15] [0] _ _ rfl rfl rfl
  refine kI h rfl (fun h _ => ?_) (fun h _ => ?_)
  ·refine kR ?_
   refine AOps_q 16 _ rfl rfl rfl (QOp_build _ _ [] [] [] _ (colD Col.zero) (colD (⟨0, 0, B136.zero⟩ : Col)) [(0, 1), (1, 1), (2, 136)] rfl rfl Tryz.underlying26 (zero_of Tryz.typeInfo26 rfl) (fun w => by simp [Tryz.sizeOf2, Tryz.sizeOf2, Tryz.sizeOf24]) rfl (by rfl) (by rfl) (fun _ h => nomatch h)) ?_
   refine AOps_store _ _ _ _ _ _ (colD _) _ _ rfl rfl rfl rfl rfl rfl rfl (colD_one _) (by rw [colD_length]; exact Tryz.sizeOf26) (by rw [colD_length, colD_length]; decide) (colD_whole _ _) ?_
   refine kN 1 rfl ?_
   refine ACode_ret ?_
   cases h
   have h := hks5
   cases h
   exact ⟨_, _, fun r a w h => ⟨r, h⟩, _, _, [], _, (.cons (ResV_agg _ _ _ _ _ _ Tryz.isAgg26 Tryz.sizeOf26 rfl rfl (colD_take _) (colD_length _)) (.cons (ResV_tmp _ _ rfl) .nil)), rfl, rfl, rfl, rfl, rfl⟩
  refine ACode_skip ?_
  cases h
  exact ⟨_, rfl, Weak_keep 0 hm [0, 2] [0] _ _ rfl rfl rfl⟩
 refine kR ?_
 refine AOps_buildSlice 17 _ _ _ [] (intsD ([] : List Int)) _ rfl rfl rfl rfl rfl (by decide) Tryz.underlying27 Tryz.sizeOf2 (zero_of Tryz.typeInfo2 rfl) rfl rfl (intsD_one _) ?_
 refine kN 1 rfl ?_
 refine kB (fun s11 => [(0, iV p0), (2, .ptr 0 0), (4, .vec 1 0)]) (fun s11 => [.box (colD Col.zero), .vec 0 (intsD s11)]) h (fun s11 h => ?_) (fun s11 h => ?_)
 ·refine kR ?_
  refine kN 1 rfl ?_
  refine ACode_block ?_
  refine ACode_loopW (fun k0 E H => ∃ (x6 : Int) (x7 : List Int), E = [(0, iV p0), (2, .ptr 0 0), (4, .vec 1 0), (5, iV x6)] ∧ H = [.box (colD Col.zero), .vec 0 (intsD x7)] ∧ impl_BySquares_l0 p0 k0 x6 x7 = some s11) k _ _ (Weak_keep 0 hm [0, 2, 4, 5] [0, 1] _ _ rfl rfl rfl) ⟨_, _, rfl, rfl, h⟩ ?_
  clear h
  rintro k0 E H ⟨x6, x7, rfl, rfl, h⟩
  cases k0 with
  | zero => cases (show (none : Option (List Int)) = some _ from h)
  | succ k0 =>
   rw [impl_BySquares_l0] at h
   refine ACode_seq ?_
   refine kR ?_
   refine kM 2 rfl ?_
   refine AOps_q 20 _ rfl rfl rfl (QOp_lss _ _ _ _ _ _ _ rfl rfl rfl) ?_
   refine AOps_nil ?_
   refine kI h rfl (fun h _ => ?_) (fun h _ => ?_)
   ·refine ACode_skip ?_
    refine ACode_seq ?_
    refine ACode_block ?_
    refine (ACode_region ?_)
    refine kM 3 rfl ?_
    refine AOps_q 26 _ rfl rfl rfl (QOp_mul _ _ _ _ _ _ _ rfl rfl rfl) ?_
    refine kM 1 rfl ?_
    obtain ⟨hc9, h⟩ := guardO h
    refine AOps_q 28 _ rfl rfl rfl (QOp_rem _ _ _ _ _ _ _ hc9 rfl rfl rfl) ?_
    refine AOps_buildSlice 29 _ _ _ [_] (intsD ([(w64 (x6 * x6)).tmod p0])) _ rfl rfl rfl rfl rfl (by decide) Tryz.underlying27 Tryz.sizeOf2 (zero_of Tryz.typeInfo2 rfl) rfl rfl (intsD_one _) ?_
    obtain ⟨hc10, h⟩ := guardO h
    refine AOps_append 30 _ _ _ _ _ _ _ _ _ _ _ _ rfl rfl rfl rfl rfl rfl rfl Tryz.underlying27 Tryz.type2 rfl rfl rfl (by decide) rfl rfl rfl rfl (intsD_one _) (by rw [intsD_length, intsD_length]; exact hc10) ?_
    rw [intsD_app]
    refine kN 1 rfl ?_
    refine (ACode_region ?_)
    refine kM 1 rfl ?_
    refine AOps_q 22 _ rfl rfl rfl (QOp_add _ _ _ _ _ _ _ rfl rfl rfl) ?_
    refine kN 1 rfl ?_
    exact ⟨k0, _, _, Nat.lt_succ_self _, Weak_trans (Weak_keep 0 hm [0, 2, 4, 5] [0, 1] _ _ rfl rfl rfl) (Weak_reset 0 hm hz [0, 2, 4, 5] _ _ rfl rfl), _, _, rfl, rfl, h⟩
   refine ACode_exit ?_
   cases h
   exact Weak_keep 0 hm [0, 2, 4] [0, 1] _ _ rfl rfl rfl
 refine kR ?_
 refine kM 2 rfl ?_
 obtain ⟨r12, hr12, h⟩ := bindO h
 refine AOps_callL [] 33 _ _ _ _ _ _ _ _ _ _ rfl rfl rfl rfl rfl rfl rfl Tryz.call134 rfl (nodupB_sound _ rfl) rfl rfl rfl (impl_byDifference_ac k p0 s11 _ hr12) ?_
 rintro _ _ ⟨rfl, rfl⟩
 refine ⟨(fun _ h => nomatch h), (allc (flat_agg (colD_flat _)) (fun _ h => nomatch h)), AOps_as 33 (v' := .d (.agg (colD r12))) (H' := [.box (colD Col.zero), .vec 0 (intsD s11)]) rfl rfl ?_⟩
 refine AOps_store _ _ _ _ _ _ (colD _) _ _ rfl rfl rfl rfl rfl rfl rfl (colD_one _) (by rw [colD_length]; exact Tryz.sizeOf26) (by rw [colD_length, colD_length]; decide) (colD_whole _ _) ?_
 refine kN 1 rfl ?_
 refine ACode_ret ?_
 cases h
 exact ⟨_, _, fun r a w h => ⟨r, h⟩, _, _, [], _, (.cons (ResV_agg _ _ _ _ _ _ Tryz.isAgg26 Tryz.sizeOf26 rfl rfl (colD_take _) (colD_length _)) (.cons (ResV_tmp _ _ rfl) .nil)), rfl, rfl, rfl, rfl, rfl⟩

-- loop.example/g01362/spec.BySquares
def spec_BySquares (k : Nat) (p0 : Int) : Option (Col × Int) :=
 (letO (if !decide (p0 = 5) then (if !decide (p0 = 13) then !decide (p0 = 17) else false) else false) fun (s3 : Bool) => (if s3 then some (.inr ((⟨0, 0, B136.zero⟩ : Col), 2)) else some (.inl ())) : Option (Sum (Unit) (Col × Int))).bind fun os5 => (match os5 with | .inl s5 => (spec_l03Squares k p0).bind fun r6 => some (r6, 0) | .inr rr => some rr)
set_option maxRecDepth 100000 in
theorem spec_BySquares_ac (k : Nat) (p0 : Int) (r : Col × Int) (h : spec_BySquares k p0 = some r) : AC Tryz.prog 58 [iV p0] [] (fun res H' => res = [.d (.agg (colD r.1)), iV r.2] ∧ H' = []) := by
 refine AC_of_body true Tryz.func58 rfl Tryz.ntmps58 (rvs := [.cell 2 26, .tmp 3]) rfl rfl (fun G hG => ?_)
 have hm : G.H.length = 0 := by rw [hG]; rfl
 have hz : zeroG G.H = true := by rw [hG]; rfl
 unfold spec_BySquares at h
 refine kR ?_
 refine AOps_alloc 2 _ _ (colD Col.zero) (zero_of Tryz.typeInfo26 rfl) (by rfl) rfl rfl rfl rfl ?_
 refine kN 1 rfl ?_
 refine kO (fun s5 => [(0, iV p0), (2, .ptr 0 0)]) (fun s5 => [.box (colD Col.zero)]) h (fun os5 h hks5 => ?_) (fun s5 h => ?_)
 ·refine kL (fun s3 => [(0, iV p0), (2, .ptr 0 0), (13, bV s3)]) (fun s3 => [.box (colD Col.zero)]) h (fun s3 h => ?_) (fun s3 h => ?_)
  ·refine (ACode_region ?_)
   refine kM 1 rfl ?_
   refine AOps_q 5 _ rfl rfl rfl (QOp_neq _ _ _ _ _ _ _ rfl rfl rfl) ?_
   refine kM 1 rfl ?_
   refine AOps_case 6 _ rfl (fun hb1 => ?_) (fun hb1 => ?_)
   ·have h := iteT hb1 h
    refine kM 1 rfl ?_
    refine AOps_q 8 _ rfl rfl rfl (QOp_neq _ _ _ _ _ _ _ rfl rfl rfl) ?_
    refine kM 2 rfl ?_
    refine AOps_case 10 _ rfl (fun hb2 => ?_) (fun hb2 => ?_)
    ·have h := iteT hb2 h
     refine kM 1 rfl ?_
     refine AOps_q 12 _ rfl rfl rfl (QOp_neq _ _ _ _ _ _ _ rfl rfl rfl) ?_
     refine kN 1 rfl ?_
     cases h
     exact Weak_keep 0 hm [0, 2, 13] [0] _ _ rfl rfl rfl
    have h := iteF hb2 h
    refine AOps_skip 11 rfl rfl rfl ?_
    refine AOps_skip 12 rfl rfl rfl ?_
    refine kN 1 rfl ?_
    cases h
    exact Weak_keep 0 hm [0, 2, 13] [0] _ _ rfl rfl rfl
   have h := iteF hb1 h
   refine AOps_skip 7 rfl rfl rfl ?_
   refine AOps_skip 8 rfl rfl rfl ?_
   refine kM 2 rfl ?_
   refine AOps_skip 11 rfl rfl rfl ?_
   refine AOps_skip 12 rfl rfl rfl ?_
   refine kN 1 rfl ?_
   cases h
   exact Weak_keep 0 hm [0, 2, 13] [0] _ _ rfl rfl rfl
  refine kI h rfl (fun h _ => ?_) (fun h _ => ?_)
  ·refine kR ?_
   refine AOps_q 14 _ rfl rfl rfl (QOp_build _ _ [] [] [] _ (colD Col.zero) (colD (⟨0, 0, B136.zero⟩ : Col)) [(0, 1), (1, 1), (2, 136)] rfl rfl Tryz.underlying26 (zero_of Tryz.typeInfo26 rfl) (fun w => by simp [Tryz.sizeOf2, Tryz.sizeOf2, Tryz.sizeOf24]) rfl (by rfl) (by rfl) (fun _ h => nomatch h)) ?_
   refine AOps_store _ _ _ _ _ _ (colD _) _ _ rfl rfl rfl rfl rfl rfl rfl (colD_one _) (by rw [colD_length]; exact Tryz.sizeOf26) (by rw [colD_length, colD_length]; decide) (colD_whole _ _) ?_
   refine kN 1 rfl ?_
   refine ACode_ret ?_
   cases h
   have h := hks5
   cases h
   exact ⟨_, _, fun r a w h => ⟨r, h⟩, _, _, [], _, (.cons (ResV_agg _ _ _ _ _ _ Tryz.isAgg26 Tryz.sizeOf26 rfl rfl (colD_take _) (colD_length _)) (.cons (ResV_tmp _ _ rfl) .nil)), rfl, rfl, rfl, rfl, rfl⟩
  refine ACode_skip ?_
  cases h
  exact ⟨_, rfl, Weak_keep 0 hm [0, 2] [0] _ _ rfl rfl rfl⟩
 refine kR ?_
 refine kM 1 rfl ?_
 obtain ⟨r6, hr6, h⟩ := bindO h
 refine kC [] 16 (.d (.agg (colD r6))) [.box (colD Col.zero)] rfl Tryz.call135 rfl rfl (spec_l03Squares_ac k p0 _ hr6) rfl ?_
 refine AOps_store _ _ _ _ _ _ (colD _) _ _ rfl rfl rfl rfl rfl rfl rfl (colD_one _) (by rw [colD_length]; exact Tryz.sizeOf26) (by rw [colD_length, colD_length]; decide) (colD_whole _ _) ?_
 refine kN 1 rfl ?_
 refine ACode_ret ?_
 cases h
 exact ⟨_, _, fun r a w h => ⟨r, h⟩, _, _, [], _, (.cons (ResV_agg _ _ _ _ _ _ Tryz.isAgg26 Tryz.sizeOf26 rfl rfl (colD_take _) (colD_length _)) (.cons (ResV_tmp _ _ rfl) .nil)), rfl, rfl, rfl, rfl, rfl⟩

-- loop.example/g01362/spec.DrawCircularOf
def spec_DrawCircularOf (k : Nat) (p0 : List UInt8) : Option (Int × Int × List Int) :=
 (spec_l01From k p0).bind fun r1 => (spec_l01Next r1 16).bind fun r2 => (spec_l01Pick r2.2 ([1, 2, 3, 4])).bind fun r3 => (spec_l03DrawList k r3.2 (w64 ((w64 (2 + r2.1)).tdiv 2)) r3.1).bind fun r4 => ((spec_l01Next r4.2 12).bind fun r5 => (if decide (r5.1 = 0) then (spec_l01Pick r5.2 ([1, 18, 0, w64 ((w64 (2 + r2.1)) + 2)])).bind fun r7 => some (r7.1, r3.1, r4.1) else (if decide (r5.1 = 1) then (spec_l01Pick r5.2 ([0, 5])).bind fun r9 => some (w64 (2 + r2.1), r9.1, r4.1) else (if decide (r5.1 = 2) then (spec_l01Pick r5.2 ([0, (-1), r3.1])).bind fun r11 => (if r4.1.length + ([r11.1]).length ≤ 1099511627776 then some (w64 (2 + r2.1), r3.1, (r4.1 ++ ([r11.1]))) else none) else some (w64 (2 + r2.1), r3.1, r4.1)))) : Option (Int × Int × List Int)).bind fun s13 => some (s13.1, s13.2.1, s13.2.2)
set_option maxRecDepth 100000 in
theorem spec_DrawCircularOf_ac (k : Nat) (p0 : List UInt8) (r : Int × Int × List Int) (h : spec_DrawCircularOf k p0 = some r) : AC Tryz.prog 59 [.d (.sl none (bysD p0))] [] (fun res H' => res = [iV r.1, iV r.2.1, .vec 0 0] ∧ H' = [.vec 0 (intsD r.2.2)]) := by
 refine AC_of_body true Tryz.func59 rfl Tryz.ntmps59 (rvs := [.tmp 2, .tmp 3, .tmp 4]) rfl rfl (fun G hG => ?_)
 have hm : G.H.length = 0 := by rw [hG]; rfl
 have hz : zeroG G.H = true := by rw [hG]; rfl
 unfold spec_DrawCircularOf at h
 refine kR ?_
 refine kN 3 rfl ?_
 refine kR ?_
 refine kM 1 rfl ?_
 obtain ⟨r1, hr1, h⟩ := bindO h
 refine kC [] 10 (.ptr 0 0) [.box (srcD r1)] rfl Tryz.call64 rfl rfl (spec_l01From_ac k p0 _ hr1) rfl ?_
 refine kN 1 rfl ?_
 refine kR ?_
 refine kM 1 rfl ?_
 obtain ⟨r2, hr2, h⟩ := bindO h
 refine kC [0] 12 (iV r2.1) [.box (srcD r2.2)] rfl Tryz.call66 rfl rfl (spec_l01Next_ac r1 16 _ hr2) rfl ?_
 refine AOps_q 13 _ rfl rfl rfl (QOp_add _ _ _ _ _ _ _ rfl rfl rfl) ?_
 refine kM 1 rfl ?_
 refine AOps_buildSlice 15 _ _ _ [_, _, _, _] (intsD ([1, 2, 3, 4])) _ rfl rfl rfl rfl rfl (by decide) Tryz.underlying27 Tryz.sizeOf2 (zero_of Tryz.typeInfo2 rfl) rfl rfl (intsD_one _) ?_
 refine AOps_freezeL [15] 1 0 _ (allc (rfl) (fun _ h => nomatch h)) rfl ?_
 obtain ⟨r3, hr3, h⟩ := bindO h
 refine kC [0] 16 (iV r3.1) [.box (srcD r3.2), .gone] rfl Tryz.call67 rfl rfl (spec_l01Pick_ac r2.2 ([1, 2, 3, 4]) _ hr3) rfl ?_
 refine kN 2 rfl ?_
 refine kR ?_
 refine kM 2 rfl ?_
 refine AOps_q 19 _ rfl rfl rfl (QOp_quo _ _ _ _ _ _ _ (by decide) rfl rfl rfl) ?_
 refine kM 1 rfl ?_
 obtain ⟨r4, hr4, h⟩ := bindO h
 refine kC [0] 21 (.vec 2 0) [.box (srcD r4.2), .gone, .vec 0 (intsD r4.1)] rfl Tryz.call136 rfl rfl (spec_l03DrawList_ac k r3.2 (w64 ((w64 (2 + r2.1)).tdiv 2)) r3.1 _ hr4) rfl ?_
 refine kN 1 rfl ?_
 refine kB (fun s13 => [(6, iV s13.1), (7, iV s13.2.1), (8, .vec 0 0)]) (fun s13 => [.vec 0 (intsD s13.2.2)]) h (fun s13 h => ?_) (fun s13 h => ?_)
 ·refine kR ?_
  refine kM 1 rfl ?_
  obtain ⟨r5, hr5, h⟩ := bindO h
  refine kC [0] 23 (iV r5.1) [.box (srcD r5.2), .gone, .vec 0 (intsD r4.1)] rfl Tryz.call66 rfl rfl (spec_l01Next_ac r4.2 12 _ hr5) rfl ?_
  refine AOps_nil ?_
  refine ACode_block ?_
  refine kR ?_
  refine AOps_q 25 _ rfl rfl rfl (QOp_eql _ _ _ _ _ _ _ rfl rfl rfl) ?_
  refine kN 1 rfl ?_
  refine kI h rfl (fun h _ => ?_) (fun h _ => ?_)
  ·refine (ACode_region ?_)
   refine kM 2 rfl ?_
   refine AOps_q 28 _ rfl rfl rfl (QOp_add _ _ _ _ _ _ _ rfl rfl rfl) ?_
   refine AOps_buildSlice 29 _ _ _ [_, _, _, _] (intsD ([1, 18, 0, w64 ((w64 (2 + r2.1)) + 2)])) _ rfl rfl rfl rfl rfl (by decide) Tryz.underlying27 Tryz.sizeOf2 (zero_of Tryz.typeInfo2 rfl) rfl rfl (intsD_one _) ?_
   refine AOps_freezeL [29] 3 0 _ (allc (rfl) (fun _ h => nomatch h)) rfl ?_
   obtain ⟨r7, hr7, h⟩ := bindO h
   refine kC [0] 30 (iV r7.1) [.box (srcD r7.2), .gone, .vec 0 (intsD r4.1), .gone] rfl Tryz.call67 rfl rfl (spec_l01Pick_ac r5.2 ([1, 18, 0, w64 ((w64 (2 + r2.1)) + 2)]) _ hr7) rfl ?_
   refine kN 1 rfl ?_
   cases h
   exact Weak_keep 0 hm [6, 7, 8] [2] _ _ rfl rfl rfl
  refine kR ?_
  refine AOps_q 32 _ rfl rfl rfl (QOp_eql _ _ _ _ _ _ _ rfl rfl rfl) ?_
  refine kN 1 rfl ?_
  refine kI h rfl (fun h _ => ?_) (fun h _ => ?_)
  ·refine (ACode_region ?_)
   refine kM 1 rfl ?_
   refine AOps_buildSlice 34 _ _ _ [_, _] (intsD ([0, 5])) _ rfl rfl rfl rfl rfl (by decide) Tryz.underlying27 Tryz.sizeOf2 (zero_of Tryz.typeInfo2 rfl) rfl rfl (intsD_one _) ?_
   refine AOps_freezeL [34] 3 0 _ (allc (rfl) (fun _ h => nomatch h)) rfl ?_
   obtain ⟨r9, hr9, h⟩ := bindO h
   refine kC [0] 35 (iV r9.1) [.box (srcD r9.2), .gone, .vec 0 (intsD r4.1), .gone] rfl Tryz.call67 rfl rfl (spec_l01Pick_ac r5.2 ([0, 5]) _ hr9) rfl ?_
   refine kN 1 rfl ?_
   cases h
   exact Weak_keep 0 hm [6, 7, 8] [2] _ _ rfl rfl rfl
  refine kR ?_
  refine AOps_q 37 _ rfl rfl rfl (QOp_eql _ _ _ _ _ _ _ rfl rfl rfl) ?_
  refine kN 1 rfl ?_
  refine kI h rfl (fun h _ => ?_) (fun h _ => ?_)
  ·refine (ACode_region ?_)
   refine kM 3 rfl ?_
   refine AOps_buildSlice 41 _ _ _ [_, _, _] (intsD ([0, (-1), r3.1])) _ rfl rfl rfl rfl rfl (by decide) Tryz.underlying27 Tryz.sizeOf2 (zero_of Tryz.typeInfo2 rfl) rfl rfl (intsD_one _) ?_
   refine AOps_freezeL [41] 3 0 _ (allc (rfl) (fun _ h => nomatch h)) rfl ?_
   obtain ⟨r11, hr11, h⟩ := bindO h
   refine kC [0] 42 (iV r11.1) [.box (srcD r11.2), .gone, .vec 0 (intsD r4.1), .gone] rfl Tryz.call67 rfl rfl (spec_l01Pick_ac r5.2 ([0, (-1), r3.1]) _ hr11) rfl ?_
   refine AOps_buildSlice 43 _ _ _ [_] (intsD ([r11.1])) _ rfl rfl rfl rfl rfl (by decide) Tryz.underlying27 Tryz.sizeOf2 (zero_of Tryz.typeInfo2 rfl) rfl rfl (intsD_one _) ?_
   obtain ⟨hc12, h⟩ := guardO h
   refine AOps_append 44 _ _ _ _ _ _ _ _ _ _ _ _ rfl rfl rfl rfl rfl rfl rfl Tryz.underlying27 Tryz.type2 rfl rfl rfl (by decide) rfl rfl rfl rfl (intsD_one _) (by rw [intsD_length, intsD_length]; exact hc12) ?_
   rw [intsD_app]
   refine kN 1 rfl ?_
   cases h
   exact Weak_trans (Weak_keep 0 hm [6, 7, 8] [2] _ _ rfl rfl rfl) (Weak_reset 0 hm hz [6, 7, 8] _ _ rfl rfl)
  refine ACode_skip ?_
  cases h
  exact Weak_keep 0 hm [6, 7, 8] [2] _ _ rfl rfl rfl
 refine kR ?_
 refine kN 6 rfl ?_
 refine ACode_ret ?_
 cases h
 exact ⟨_, _, Weak_reset 0 hm hz [2, 3, 4] _ _ rfl rfl, _, _, [0], _, (.cons (ResV_tmp _ _ rfl) (.cons (ResV_tmp _ _ rfl) (.cons (ResV_tmp _ _ rfl) .nil))), rfl, rfl, rfl, rfl, rfl⟩

-- loop.example/g01362/spec.l01All
def spec_l01All_l0 (p0 : List Int) (p1 : Int) : Nat → Int → Option (Sum (Unit) (Bool))
 | 0, _ => none
 | k0 + 1, x1 => (if decide (x1 < (p0.length : Int)) then (if 0 ≤ x1 ∧ x1 < (p0.length : Int) then (if !(spec_l01In (p0.getD x1.toNat 0) 0 (w64 (p1 - 1))) then some (.inr false) else spec_l01All_l0 p0 p1 k0 (w64 (x1 + 1))) else none) else some (.inl ()))
def spec_l01All (k : Nat) (p0 : List Int) (p1 : Int) : Option (Bool) :=
 (spec_l01All_l0 p0 p1 k 0 : Option (Sum (Unit) (Bool))).bind fun os6 => (match os6 with | .inl s6 => some true | .inr rr => some rr)
set_option maxRecDepth 100000 in
theorem spec_l01All_ac (k : Nat) (p0 : List Int) (p1 : Int) (r : Bool) (h : spec_l01All k p0 p1 = some r) : AC Tryz.prog 74 [.d (.sl none (intsD p0)), iV p1] [] (fun res H' => res = [bV r] ∧ H' = []) := by
 refine AC_of_body true Tryz.func74 rfl Tryz.ntmps74 (rvs := [.tmp 4]) rfl rfl (fun G hG => ?_)
 have hm : G.H.length = 0 := by rw [hG]; rfl
 have hz : zeroG G.H = true := by rw [hG]; rfl
 unfold spec_l01All at h
 refine kR ?_
 refine kN 1 rfl ?_
 refine kO (fun s6 => []) (fun s6 => []) h (fun os6 h hks6 => ?_) (fun s6 h => ?_)
 ·refine kR ?_
  refine kN 1 rfl ?_
  refine ACode_block ?_
  refine ACode_loopW (fun k0 E H => ∃ (x1 : Int), E = [(0, .d (.sl none (intsD p0))), (1, iV p1), (5, iV x1)] ∧ H = [] ∧ spec_l01All_l0 p0 p1 k0 x1 = some os6) k _ _ (Weak_keep 0 hm [0, 1, 5] [] _ _ rfl rfl rfl) ⟨_, rfl, rfl, h⟩ ?_
  clear h
  rintro k0 E H ⟨x1, rfl, rfl, h⟩
  cases k0 with
  | zero => cases (show (none : Option (Sum (Unit) (Bool))) = some _ from h)
  | succ k0 =>
   rw [spec_l01All_l0] at h
   refine ACode_seq ?_
   refine kR ?_
   refine kM 2 rfl ?_
   refine AOps_q 8 _ rfl rfl rfl (QOp_len_sl _ _ _ _ _ _ _ (intsD_length _) rfl rfl rfl rfl Tryz.underlying27 rfl) ?_
   refine AOps_q 9 _ rfl rfl rfl (QOp_lss _ _ _ _ _ _ _ rfl rfl rfl) ?_
   refine AOps_nil ?_
   refine kI h rfl (fun h _ => ?_) (fun h _ => ?_)
   ·refine ACode_skip ?_
    refine ACode_seq ?_
    refine ACode_block ?_
    refine kR ?_
    refine kM 2 rfl ?_
    obtain ⟨hc3, h⟩ := guardO h
    refine AOps_q 14 _ rfl rfl rfl (QOp_indexAddr_sl _ _ _ _ _ _ _ _ rfl Tryz.underlying27 Tryz.sizeOf2 hc3.1 (by rw [intsD_length]; exact hc3.2) rfl rfl) ?_
    refine AOps_q 15 _ rfl rfl rfl (QOp_load_pv _ _ _ _ _ rfl Tryz.isAgg2 rfl (intsD_get _ _ 0 (by omega))) ?_
    refine kM 1 rfl ?_
    refine AOps_q 17 _ rfl rfl rfl (QOp_sub _ _ _ _ _ _ _ rfl rfl rfl) ?_
    refine kC [] 18 (bV (spec_l01In (p0.getD x1.toNat 0) 0 (w64 (p1 - 1)))) [] rfl Tryz.call100 rfl rfl (spec_l01In_ac (p0.getD x1.toNat 0) 0 (w64 (p1 - 1))) rfl ?_
    refine AOps_q 19 _ rfl rfl rfl (QOp_not _ _ _ rfl rfl) ?_
    refine AOps_nil ?_
    refine kI h rfl (fun h _ => ?_) (fun h _ => ?_)
    ·refine kR ?_
     refine kN 1 rfl ?_
     refine ACode_ret ?_
     cases h
     have h := hks6
     cases h
     exact ⟨_, _, fun r a w h => ⟨r, h⟩, _, _, [], _, (.cons (ResV_tmp _ _ rfl) .nil), rfl, rfl, rfl, rfl, rfl⟩
    refine ACode_skip ?_
    refine (ACode_region ?_)
    refine kM 1 rfl ?_
    refine AOps_q 11 _ rfl rfl rfl (QOp_add _ _ _ _ _ _ _ rfl rfl rfl) ?_
    refine kN 1 rfl ?_
    exact ⟨k0, _, _, Nat.lt_succ_self _, Weak_keep 0 hm [0, 1, 5] [] _ _ rfl rfl rfl, _, rfl, rfl, h⟩
   refine ACode_exit ?_
   cases h
   exact ⟨_, rfl, Weak_keep 0 hm [] [] _ _ rfl rfl rfl⟩
 refine kR ?_
 refine kN 1 rfl ?_
 refine ACode_ret ?_
 cases h
 exact ⟨_, _, fun r a w h => ⟨r, h⟩, _, _, [], _, (.cons (ResV_tmp _ _ rfl) .nil), rfl, rfl, rfl, rfl, rfl⟩

-- loop.example/g01362/spec.CircularOf
def spec_CircularOf (k : Nat) (p0 : Int) (p1 : Int) (p2 : List Int) : Option (Col × Int) :=
 (((if !(spec_l01In p0 2 17) then some true else (if !(spec_l01In p1 1 4) then some true else (if !decide ((p2.length : Int) = w64 (p0.tdiv 2)) then some true else (spec_l01All k p2 p1).bind fun r6 => some (!r6)))) : Option (Bool)).bind fun s7 => (if s7 then some (.inr ((⟨0, 0, B136.zero⟩ : Col), 2)) else some (.inl ())) : Option (Sum (Unit) (Col × Int))).bind fun os9 => (match os9 with | .inl s9 => (spec_l03Circular k p0 p1 p2).bind fun r10 => some (r10, 0) | .inr rr => some rr)
set_option maxRecDepth 100000 in
theorem spec_CircularOf_ac (k : Nat) (p0 : Int) (p1 : Int) (p2 : List Int) (r : Col × Int) (h : spec_CircularOf k p0 p1 p2 = some r) : AC Tryz.prog 60 [iV p0, iV p1, .d (.sl none (intsD p2))] [] (fun res H' => res = [.d (.agg (colD r.1)), iV r.2] ∧ H' = []) := by
 refine AC_of_body true Tryz.func60 rfl Tryz.ntmps60 (rvs := [.cell 6 26, .tmp 7]) rfl rfl (fun G hG => ?_)
 have hm : G.H.length = 0 := by rw [hG]; rfl
 have hz : zeroG G.H = true := by rw [hG]; rfl
 unfold spec_CircularOf at h
 refine kR ?_
 refine AOps_alloc 6 _ _ (colD Col.zero) (zero_of Tryz.typeInfo26 rfl) (by rfl) rfl rfl rfl rfl ?_
 refine kN 1 rfl ?_
 refine kO (fun s9 => [(0, iV p0), (1, iV p1), (2, .d (.sl none (intsD p2))), (6, .ptr 0 0)]) (fun s9 => [.box (colD Col.zero)]) h (fun os9 h hks9 => ?_) (fun s9 h => ?_)
 ·refine kB (fun s7 => [(0, iV p0), (1, iV p1), (2, .d (.sl none (intsD p2))), (6, .ptr 0 0), (28, bV s7)]) (fun s7 => [.box (colD Col.zero)]) h (fun s7 h => ?_) (fun s7 h => ?_)
  ·refine (ACode_region ?_)
   refine kM 1 rfl ?_
   refine kC [] 9 (bV (spec_l01In p0 2 17)) [.box (colD Col.zero)] rfl Tryz.call100 rfl rfl (spec_l01In_ac p0 2 17) rfl ?_
   refine AOps_q 10 _ rfl rfl rfl (QOp_not _ _ _ rfl rfl) ?_
   refine kM 1 rfl ?_
   refine AOps_case 11 _ rfl (fun hb2 => ?_) (fun hb2 => ?_)
   ·have h := iteT hb2 h
    refine AOps_skip 12 rfl rfl rfl ?_
    refine AOps_skip 13 rfl rfl rfl ?_
    refine AOps_skip 14 rfl rfl rfl ?_
    refine kM 2 rfl ?_
    refine AOps_skip 17 rfl rfl rfl ?_
    refine AOps_skip 18 rfl rfl rfl ?_
    refine AOps_skip 19 rfl rfl rfl ?_
    refine AOps_skip 20 rfl rfl rfl ?_
    refine AOps_skip 21 rfl rfl rfl ?_
    refine kM 2 rfl ?_
    refine AOps_skip 24 rfl rfl rfl ?_
    refine AOps_skip 25 rfl rfl rfl ?_
    refine AOps_skip 26 rfl rfl rfl ?_
    refine AOps_skip 27 rfl rfl rfl ?_
    refine kN 1 rfl ?_
    cases h
    exact Weak_keep 0 hm [0, 1, 2, 6, 28] [0] _ _ rfl rfl rfl
   have h := iteF hb2 h
   refine kM 1 rfl ?_
   refine kC [] 13 (bV (spec_l01In p1 1 4)) [.box (colD Col.zero)] rfl Tryz.call100 rfl rfl (spec_l01In_ac p1 1 4) rfl ?_
   refine AOps_q 14 _ rfl rfl rfl (QOp_not _ _ _ rfl rfl) ?_
   refine kM 2 rfl ?_
   refine AOps_case 16 _ rfl (fun hb4 => ?_) (fun hb4 => ?_)
   ·have h := iteT hb4 h
    refine AOps_skip 17 rfl rfl rfl ?_
    refine AOps_skip 18 rfl rfl rfl ?_
    refine AOps_skip 19 rfl rfl rfl ?_
    refine AOps_skip 20 rfl rfl rfl ?_
    refine AOps_skip 21 rfl rfl rfl ?_
    refine kM 2 rfl ?_
    refine AOps_skip 24 rfl rfl rfl ?_
    refine AOps_skip 25 rfl rfl rfl ?_
    refine AOps_skip 26 rfl rfl rfl ?_
    refine AOps_skip 27 rfl rfl rfl ?_
    refine kN 1 rfl ?_
    cases h
    exact Weak_keep 0 hm [0, 1, 2, 6, 28] [0] _ _ rfl rfl rfl
   have h := iteF hb4 h
   refine kM 1 rfl ?_
   refine AOps_q 18 _ rfl rfl rfl (QOp_len_sl _ _ _ _ _ _ _ (intsD_length _) rfl rfl rfl rfl Tryz.underlying27 rfl) ?_
   refine kM 1 rfl ?_
   refine AOps_q 20 _ rfl rfl rfl (QOp_quo _ _ _ _ _ _ _ (by decide) rfl rfl rfl) ?_
   refine AOps_q 21 _ rfl rfl rfl (QOp_neq _ _ _ _ _ _ _ rfl rfl rfl) ?_
   refine kM 2 rfl ?_
   refine AOps_case 23 _ rfl (fun hb5 => ?_) (fun hb5 => ?_)
   ·have h := iteT hb5 h
    refine AOps_skip 24 rfl rfl rfl ?_
    refine AOps_skip 25 rfl rfl rfl ?_
    refine AOps_skip 26 rfl rfl rfl ?_
    refine AOps_skip 27 rfl rfl rfl ?_
    refine kN 1 rfl ?_
    cases h
    exact Weak_keep 0 hm [0, 1, 2, 6, 28] [0] _ _ rfl rfl rfl
   have h := iteF hb5 h
   refine kM 2 rfl ?_
   obtain ⟨r6, hr6, h⟩ := bindO h
   refine kC [] 26 (bV r6) [.box (colD Col.zero)] rfl Tryz.call74 rfl rfl (spec_l01All_ac k p2 p1 _ hr6) rfl ?_
   refine AOps_q 27 _ rfl rfl rfl (QOp_not _ _ _ rfl rfl) ?_
   refine kN 1 rfl ?_
   cases h
   exact Weak_keep 0 hm [0, 1, 2, 6, 28] [0] _ _ rfl rfl rfl
  refine kI h rfl (fun h _ => ?_) (fun h _ => ?_)
  ·refine kR ?_
   refine AOps_q 29 _ rfl rfl rfl (QOp_build _ _ [] [] [] _ (colD Col.zero) (colD (⟨0, 0, B136.zero⟩ : Col)) [(0, 1), (1, 1), (2, 136)] rfl rfl Tryz.underlying26 (zero_of Tryz.typeInfo26 rfl) (fun w => by simp [Tryz.sizeOf2, Tryz.sizeOf2, Tryz.sizeOf24]) rfl (by rfl) (by rfl) (fun _ h => nomatch h)) ?_
   refine AOps_store _ _ _ _ _ _ (colD _) _ _ rfl rfl rfl rfl rfl rfl rfl (colD_one _) (by rw [colD_length]; exact Tryz.sizeOf26) (by rw [colD_length, colD_length]; decide) (colD_whole _ _) ?_
   refine kN 1 rfl ?_
   refine ACode_ret ?_
   cases h
   have h := hks9
   cases h
   exact ⟨_, _, fun r a w h => ⟨r, h⟩, _, _, [], _, (.cons (ResV_agg _ _ _ _ _ _ Tryz.isAgg26 Tryz.sizeOf26 rfl rfl (colD_take _) (colD_length _)) (.cons (ResV_tmp _ _ rfl) .nil)), rfl, rfl, rfl, rfl, rfl⟩
  refine ACode_skip ?_
  cases h
  exact ⟨_, rfl, Weak_keep 0 hm [0, 1, 2, 6] [0] _ _ rfl rfl rfl⟩
 refine kR ?_
 refine kM 3 rfl ?_
 obtain ⟨r10, hr10, h⟩ := bindO h
 refine kC [] 33 (.d (.agg (colD r10))) [.box (colD Col.zero)] rfl Tryz.call137 rfl rfl (spec_l03Circular_ac k p0 p1 p2 _ hr10) rfl ?_
 refine AOps_store _ _ _ _ _ _ (colD _) _ _ rfl rfl rfl rfl rfl rfl rfl (colD_one _) (by rw [colD_length]; exact Tryz.sizeOf26) (by rw [colD_length, colD_length]; decide) (colD_whole _ _) ?_
 refine kN 1 rfl ?_
 refine ACode_ret ?_
 cases h
 exact ⟨_, _, fun r a w h => ⟨r, h⟩, _, _, [], _, (.cons (ResV_agg _ _ _ _ _ _ Tryz.isAgg26 Tryz.sizeOf26 rfl rfl (colD_take _) (colD_length _)) (.cons (ResV_tmp _ _ rfl) .nil)), rfl, rfl, rfl, rfl, rfl⟩

-- loop.example/g01362/spec.DrawDigitalOf
def spec_DrawDigitalOf (k : Nat) (p0 : List UInt8) : Option (Int × Int × List Int) :=
 (spec_l01From k p0).bind fun r1 => (spec_l01Next r1 4).bind fun r2 => (spec_l01Pick r2.2 ([1, 2, 3, 4])).bind fun r3 => (if 0 ≤ IntKind.u64.wrap (w64 (1 + r2.1)) then (spec_l03DrawList k r3.2 (w64 ((bShl .i64 1 (IntKind.u64.wrap (w64 (1 + r2.1)))) - 1)) r3.1).bind fun r5 => ((spec_l01Next r5.2 12).bind fun r6 => (if decide (r6.1 = 0) then (spec_l01Pick r6.2 ([0, 5, (-1), 62])).bind fun r8 => some (r8.1, r3.1, r5.1) else (if decide (r6.1 = 1) then (spec_l01Pick r6.2 ([0, 5])).bind fun r10 => some (w64 (1 + r2.1), r10.1, r5.1) else (if decide (r6.1 = 2) then (spec_l01Pick r6.2 ([(-1), r3.1])).bind fun r12 => (if 0 ≤ (0 : Int) ∧ (0 : Int) < (r5.1.length : Int) then some (w64 (1 + r2.1), r3.1, r5.1.set (0 : Int).toNat r12.1) else none) else some (w64 (1 + r2.1), r3.1, r5.1)))) : Option (Int × Int × List Int)).bind fun s14 => some (s14.1, s14.2.1, s14.2.2) else none)
set_option maxRecDepth 100000 in
theorem spec_DrawDigitalOf_ac (k : Nat) (p0 : List UInt8) (r : Int × Int × List Int) (h : spec_DrawDigitalOf k p0 = some r) : AC Tryz.prog 61 [.d (.sl none (bysD p0))] [] (fun res H' => res = [iV r.1, iV r.2.1, .vec 0 0] ∧ H' = [.vec 0 (intsD r.2.2)]) := by
 refine AC_of_body true Tryz.func61 rfl Tryz.ntmps61 (rvs := [.tmp 2, .tmp 3, .tmp 4]) rfl rfl (fun G hG => ?_)
 have hm : G.H.length = 0 := by rw [hG]; rfl
 have hz : zeroG G.H = true := by rw [hG]; rfl
 unfold spec_DrawDigitalOf at h
 refine kR ?_
 refine kN 3 rfl ?_
 refine kR ?_
 refine kM 1 rfl ?_
 obtain ⟨r1, hr1, h⟩ := bindO h
 refine kC [] 10 (.ptr 0 0) [.box (srcD r1)] rfl Tryz.call64 rfl rfl (spec_l01From_ac k p0 _ hr1) rfl ?_
 refine kN 1 rfl ?_
 refine kR ?_
 refine kM 1 rfl ?_
 obtain ⟨r2, hr2, h⟩ := bindO h
 refine kC [0] 12 (iV r2.1) [.box (srcD r2.2)] rfl Tryz.call66 rfl rfl (spec_l01Next_ac r1 4 _ hr2) rfl ?_
 refine AOps_q 13 _ rfl rfl rfl (QOp_add _ _ _ _ _ _ _ rfl rfl rfl) ?_
 refine kM 1 rfl ?_
 refine AOps_buildSlice 15 _ _ _ [_, _, _, _] (intsD ([1, 2, 3, 4])) _ rfl rfl rfl rfl rfl (by decide) Tryz.underlying27 Tryz.sizeOf2 (zero_of Tryz.typeInfo2 rfl) rfl rfl (intsD_one _) ?_
 refine AOps_freezeL [15] 1 0 _ (allc (rfl) (fun _ h => nomatch h)) rfl ?_
 obtain ⟨r3, hr3, h⟩ := bindO h
 refine kC [0] 16 (iV r3.1) [.box (srcD r3.2), .gone] rfl Tryz.call67 rfl rfl (spec_l01Pick_ac r2.2 ([1, 2, 3, 4]) _ hr3) rfl ?_
 refine kN 2 rfl ?_
 refine kR ?_
 refine kM 2 rfl ?_
 refine AOps_q 19 _ rfl rfl rfl (QOp_conv _ _ _ _ _ _ rfl rfl Tryz.underlying56 rfl) ?_
 obtain ⟨hc4, h⟩ := guardO h
 refine AOps_q 20 _ rfl rfl rfl (QOp_shl _ _ _ _ _ _ _ _ hc4 rfl rfl rfl) ?_
 refine AOps_q 21 _ rfl rfl rfl (QOp_sub _ _ _ _ _ _ _ rfl rfl rfl) ?_
 refine kM 1 rfl ?_
 obtain ⟨r5, hr5, h⟩ := bindO h
 refine kC [0] 23 (.vec 2 0) [.box (srcD r5.2), .gone, .vec 0 (intsD r5.1)] rfl Tryz.call136 rfl rfl (spec_l03DrawList_ac k r3.2 (w64 ((bShl .i64 1 (IntKind.u64.wrap (w64 (1 + r2.1)))) - 1)) r3.1 _ hr5) rfl ?_
 refine kN 1 rfl ?_
 refine kB (fun s14 => [(6, iV s14.1), (7, iV s14.2.1), (8, .vec 0 0)]) (fun s14 => [.vec 0 (intsD s14.2.2)]) h (fun s14 h => ?_) (fun s14 h => ?_)
 ·refine kR ?_
  refine kM 1 rfl ?_
  obtain ⟨r6, hr6, h⟩ := bindO h
  refine kC [0] 25 (iV r6.1) [.box (srcD r6.2), .gone, .vec 0 (intsD r5.1)] rfl Tryz.call66 rfl rfl (spec_l01Next_ac r5.2 12 _ hr6) rfl ?_
  refine AOps_nil ?_
  refine ACode_block ?_
  refine kR ?_
  refine AOps_q 27 _ rfl rfl rfl (QOp_eql _ _ _ _ _ _ _ rfl rfl rfl) ?_
  refine kN 1 rfl ?_
  refine kI h rfl (fun h _ => ?_) (fun h _ => ?_)
  ·refine (ACode_region ?_)
   refine kM 1 rfl ?_
   refine AOps_buildSlice 29 _ _ _ [_, _, _, _] (intsD ([0, 5, (-1), 62])) _ rfl rfl rfl rfl rfl (by decide) Tryz.underlying27 Tryz.sizeOf2 (zero_of Tryz.typeInfo2 rfl) rfl rfl (intsD_one _) ?_
   refine AOps_freezeL [29] 3 0 _ (allc (rfl) (fun _ h => nomatch h)) rfl ?_
   obtain ⟨r8, hr8, h⟩ := bindO h
   refine kC [0] 30 (iV r8.1) [.box (srcD r8.2), .gone, .vec 0 (intsD r5.1), .gone] rfl Tryz.call67 rfl rfl (spec_l01Pick_ac r6.2 ([0, 5, (-1), 62]) _ hr8) rfl ?_
   refine kN 1 rfl ?_
   cases h
   exact Weak_keep 0 hm [6, 7, 8] [2] _ _ rfl rfl rfl
  refine kR ?_
  refine AOps_q 32 _ rfl rfl rfl (QOp_eql _ _ _ _ _ _ _ rfl rfl rfl) ?_
  refine kN 1 rfl ?_
  refine kI h rfl (fun h _ => ?_) (fun h _ => ?_)
  ·refine (ACode_region ?_)
   refine kM 1 rfl ?_
   refine AOps_buildSlice 34 _ _ _ [_, _] (intsD ([0, 5])) _ rfl rfl rfl rfl rfl (by decide) Tryz.underlying27 Tryz.sizeOf2 (zero_of Tryz.typeInfo2 rfl) rfl rfl (intsD_one _) ?_
   refine AOps_freezeL [34] 3 0 _ (allc (rfl) (fun _ h => nomatch h)) rfl ?_
   obtain ⟨r10, hr10, h⟩ := bindO h
   refine kC [0] 35 (iV r10.1) [.box (srcD r10.2), .gone, .vec 0 (intsD r5.1), .gone] rfl Tryz.call67 rfl rfl (spec_l01Pick_ac r6.2 ([0, 5]) _ hr10) rfl ?_
   refine kN 1 rfl ?_
   cases h
   exact Weak_keep 0 hm [6, 7, 8] [2] _ _ rfl rfl rfl
  refine kR ?_
  refine AOps_q 37 _ rfl rfl rfl (QOp_eql _ _ _ _ _ _ _ rfl rfl rfl) ?_
  refine kN 1 rfl ?_
  refine kI h rfl (fun h _ => ?_) (fun h _ => ?_)
  ·refine (ACode_region ?_)
   refine kM 3 rfl ?_
   refine AOps_buildSlice 41 _ _ _ [_, _] (intsD ([(-1), r3.1])) _ rfl rfl rfl rfl rfl (by decide) Tryz.underlying27 Tryz.sizeOf2 (zero_of Tryz.typeInfo2 rfl) rfl rfl (intsD_one _) ?_
   refine AOps_freezeL [41] 3 0 _ (allc (rfl) (fun _ h => nomatch h)) rfl ?_
   obtain ⟨r12, hr12, h⟩ := bindO h
   refine kC [0] 42 (iV r12.1) [.box (srcD r12.2), .gone, .vec 0 (intsD r5.1), .gone] rfl Tryz.call67 rfl rfl (spec_l01Pick_ac r6.2 ([(-1), r3.1]) _ hr12) rfl ?_
   obtain ⟨hc13, h⟩ := guardO h
   refine AOps_q 43 _ rfl rfl rfl (QOp_indexAddr_vec _ _ _ _ _ _ _ _ _ rfl Tryz.underlying27 Tryz.sizeOf2 hc13.1 (by rw [intsD_length]; exact hc13.2) rfl rfl rfl) ?_
   refine AOps_store_eptr _ _ _ _ _ _ (intsD r5.1) _ rfl rfl rfl rfl rfl rfl rfl Tryz.sizeOf2 (by rw [intsD_length]; omega) ?_
   rw [intsD_set]
   refine AOps_nil ?_
   cases h
   exact Weak_keep 0 hm [6, 7, 8] [2] _ _ rfl rfl rfl
  refine ACode_skip ?_
  cases h
  exact Weak_keep 0 hm [6, 7, 8] [2] _ _ rfl rfl rfl
 refine kR ?_
 refine kN 6 rfl ?_
 refine ACode_ret ?_
 cases h
 exact ⟨_, _, Weak_reset 0 hm hz [2, 3, 4] _ _ rfl rfl, _, _, [0], _, (.cons (ResV_tmp _ _ rfl) (.cons (ResV_tmp _ _ rfl) (.cons (ResV_tmp _ _ rfl) .nil))), rfl, rfl, rfl, rfl, rfl⟩

-- loop.example/g01362/spec.DigitalOf
def spec_DigitalOf (k : Nat) (p0 : Int) (p1 : Int) (p2 : List Int) : Option (Col × Int) :=
 (((if !(spec_l01In p0 1 4) then some true else (if !(spec_l01In p1 1 4) then some true else (if 0 ≤ IntKind.u64.wrap p0 then (if !decide ((p2.length : Int) = w64 ((bShl .i64 1 (IntKind.u64.wrap p0)) - 1)) then some true else (spec_l01All k p2 p1).bind fun r7 => some (!r7)) else none))) : Option (Bool)).bind fun s8 => (if s8 then some (.inr ((⟨0, 0, B136.zero⟩ : Col), 2)) else some (.inl ())) : Option (Sum (Unit) (Col × Int))).bind fun os10 => (match os10 with | .inl s10 => (if 0 ≤ IntKind.u64.wrap p0 then (spec_l03Digital k (bShl .i64 1 (IntKind.u64.wrap p0)) p1 p2).bind fun r12 => some (r12, 0) else none) | .inr rr => some rr)
set_option maxRecDepth 100000 in
theorem spec_DigitalOf_ac (k : Nat) (p0 : Int) (p1 : Int) (p2 : List Int) (r : Col × Int) (h : spec_DigitalOf k p0 p1 p2 = some r) : AC Tryz.prog 62 [iV p0, iV p1, .d (.sl none (intsD p2))] [] (fun res H' => res = [.d (.agg (colD r.1)), iV r.2] ∧ H' = []) := by
 refine AC_of_body true Tryz.func62 rfl Tryz.ntmps62 (rvs := [.cell 6 26, .tmp 7]) rfl rfl (fun G hG => ?_)
 have hm : G.H.length = 0 := by rw [hG]; rfl
 have hz : zeroG G.H = true := by rw [hG]; rfl
 unfold spec_DigitalOf at h
 refine kR ?_
 refine AOps_alloc 6 _ _ (colD Col.zero) (zero_of Tryz.typeInfo26 rfl) (by rfl) rfl rfl rfl rfl ?_
 refine kN 1 rfl ?_
 refine kO (fun s10 => [(0, iV p0), (1, iV p1), (2, .d (.sl none (intsD p2))), (6, .ptr 0 0)]) (fun s10 => [.box (colD Col.zero)]) h (fun os10 h hks10 => ?_) (fun s10 h => ?_)
 ·refine kB (fun s8 => [(0, iV p0), (1, iV p1), (2, .d (.sl none (intsD p2))), (6, .ptr 0 0), (30, bV s8)]) (fun s8 => [.box (colD Col.zero)]) h (fun s8 h => ?_) (fun s8 h => ?_)
  ·refine (ACode_region ?_)
   refine kM 1 rfl ?_
   refine kC [] 9 (bV (spec_l01In p0 1 4)) [.box (colD Col.zero)] rfl Tryz.call100 rfl rfl (spec_l01In_ac p0 1 4) rfl ?_
   refine AOps_q 10 _ rfl rfl rfl (QOp_not _ _ _ rfl rfl) ?_
   refine kM 1 rfl ?_
   refine AOps_case 11 _ rfl (fun hb2 => ?_) (fun hb2 => ?_)
   ·have h := iteT hb2 h
    refine AOps_skip 12 rfl rfl rfl ?_
    refine AOps_skip 13 rfl rfl rfl ?_
    refine AOps_skip 14 rfl rfl rfl ?_
    refine kM 2 rfl ?_
    refine AOps_skip 17 rfl rfl rfl ?_
    refine AOps_skip 18 rfl rfl rfl ?_
    refine AOps_skip 19 rfl rfl rfl ?_
    refine AOps_skip 20 rfl rfl rfl ?_
    refine AOps_skip 21 rfl rfl rfl ?_
    refine AOps_skip 22 rfl rfl rfl ?_
    refine AOps_skip 23 rfl rfl rfl ?_
    refine kM 2 rfl ?_
    refine AOps_skip 26 rfl rfl rfl ?_
    refine AOps_skip 27 rfl rfl rfl ?_
    refine AOps_skip 28 rfl rfl rfl ?_
    refine AOps_skip 29 rfl rfl rfl ?_
    refine kN 1 rfl ?_
    cases h
    exact Weak_keep 0 hm [0, 1, 2, 6, 30] [0] _ _ rfl rfl rfl
   have h := iteF hb2 h
   refine kM 1 rfl ?_
   refine kC [] 13 (bV (spec_l01In p1 1 4)) [.box (colD Col.zero)] rfl Tryz.call100 rfl rfl (spec_l01In_ac p1 1 4) rfl ?_
   refine AOps_q 14 _ rfl rfl rfl (QOp_not _ _ _ rfl rfl) ?_
   refine kM 2 rfl ?_
   refine AOps_case 16 _ rfl (fun hb4 => ?_) (fun hb4 => ?_)
   ·have h := iteT hb4 h
    refine AOps_skip 17 rfl rfl rfl ?_
    refine AOps_skip 18 rfl rfl rfl ?_
    refine AOps_skip 19 rfl rfl rfl ?_
    refine AOps_skip 20 rfl rfl rfl ?_
    refine AOps_skip 21 rfl rfl rfl ?_
    refine AOps_skip 22 rfl rfl rfl ?_
    refine AOps_skip 23 rfl rfl rfl ?_
    refine kM 2 rfl ?_
    refine AOps_skip 26 rfl rfl rfl ?_
    refine AOps_skip 27 rfl rfl rfl ?_
    refine AOps_skip 28 rfl rfl rfl ?_
    refine AOps_skip 29 rfl rfl rfl ?_
    refine kN 1 rfl ?_
    cases h
    exact Weak_keep 0 hm [0, 1, 2, 6, 30] [0] _ _ rfl rfl rfl
   have h := iteF hb4 h
   refine kM 1 rfl ?_
   refine AOps_q 18 _ rfl rfl rfl (QOp_len_sl _ _ _ _ _ _ _ (intsD_length _) rfl rfl rfl rfl Tryz.underlying27 rfl) ?_
   refine kM 1 rfl ?_
   refine AOps_q 20 _ rfl rfl rfl (QOp_conv _ _ _ _ _ _ rfl rfl Tryz.underlying56 rfl) ?_
   obtain ⟨hc5, h⟩ := guardO h
   refine AOps_q 21 _ rfl rfl rfl (QOp_shl _ _ _ _ _ _ _ _ hc5 rfl rfl rfl) ?_
   refine AOps_q 22 _ rfl rfl rfl (QOp_sub _ _ _ _ _ _ _ rfl rfl rfl) ?_
   refine AOps_q 23 _ rfl rfl rfl (QOp_neq _ _ _ _ _ _ _ rfl rfl rfl) ?_
   refine kM 2 rfl ?_
   refine AOps_case 25 _ rfl (fun hb6 => ?_) (fun hb6 => ?_)
   ·have h := iteT hb6 h
    refine AOps_skip 26 rfl rfl rfl ?_
    refine AOps_skip 27 rfl rfl rfl ?_
    refine AOps_skip 28 rfl rfl rfl ?_
    refine AOps_skip 29 rfl rfl rfl ?_
    refine kN 1 rfl ?_
    cases h
    exact Weak_keep 0 hm [0, 1, 2, 6, 30] [0] _ _ rfl rfl rfl
   have h := iteF hb6 h
   refine kM 2 rfl ?_
   obtain ⟨r7, hr7, h⟩ := bindO h
   refine kC [] 28 (bV r7) [.box (colD Col.zero)] rfl Tryz.call74 rfl rfl (spec_l01All_ac k p2 p1 _ hr7) rfl ?_
   refine AOps_q 29 _ rfl rfl rfl (QOp_not _ _ _ rfl rfl) ?_
   refine kN 1 rfl ?_
   cases h
   exact Weak_keep 0 hm [0, 1, 2, 6, 30] [0] _ _ rfl rfl rfl
  refine kI h rfl (fun h _ => ?_) (fun h _ => ?_)
  ·refine kR ?_
   refine AOps_q 31 _ rfl rfl rfl (QOp_build _ _ [] [] [] _ (colD Col.zero) (colD (⟨0, 0, B136.zero⟩ : Col)) [(0, 1), (1, 1), (2, 136)] rfl rfl Tryz.underlying26 (zero_of Tryz.typeInfo26 rfl) (fun w => by simp [Tryz.sizeOf2, Tryz.sizeOf2, Tryz.sizeOf24]) rfl (by rfl) (by rfl) (fun _ h => nomatch h)) ?_
   refine AOps_store _ _ _ _ _ _ (colD _) _ _ rfl rfl rfl rfl rfl rfl rfl (colD_one _) (by rw [colD_length]; exact Tryz.sizeOf26) (by rw [colD_length, colD_length]; decide) (colD_whole _ _) ?_
   refine kN 1 rfl ?_
   refine ACode_ret ?_
   cases h
   have h := hks10
   cases h
   exact ⟨_, _, fun r a w h => ⟨r, h⟩, _, _, [], _, (.cons (ResV_agg _ _ _ _ _ _ Tryz.isAgg26 Tryz.sizeOf26 rfl rfl (colD_take _) (colD_length _)) (.cons (ResV_tmp _ _ rfl) .nil)), rfl, rfl, rfl, rfl, rfl⟩
  refine ACode_skip ?_
  cases h
  exact ⟨_, rfl, Weak_keep 0 hm [0, 1, 2, 6] [0] _ _ rfl rfl rfl⟩
 refine kR ?_
 refine kM 1 rfl ?_
 refine AOps_q 33 _ rfl rfl rfl (QOp_conv _ _ _ _ _ _ rfl rfl Tryz.underlying56 rfl) ?_
 obtain ⟨hc11, h⟩ := guardO h
 refine AOps_q 34 _ rfl rfl rfl (QOp_shl _ _ _ _ _ _ _ _ hc11 rfl rfl rfl) ?_
 refine kM 2 rfl ?_
 obtain ⟨r12, hr12, h⟩ := bindO h
 refine kC [] 37 (.d (.agg (colD r12))) [.box (colD Col.zero)] rfl Tryz.call132 rfl rfl (spec_l03Digital_ac k (bShl .i64 1 (IntKind.u64.wrap p0)) p1 p2 _ hr12) rfl ?_
 refine AOps_store _ _ _ _ _ _ (colD _) _ _ rfl rfl rfl rfl rfl rfl rfl (colD_one _) (by rw [colD_length]; exact Tryz.sizeOf26) (by rw [colD_length, colD_length]; decide) (colD_whole _ _) ?_
 refine kN 1 rfl ?_
 refine ACode_ret ?_
 cases h
 exact ⟨_, _, fun r a w h => ⟨r, h⟩, _, _, [], _, (.cons (ResV_agg _ _ _ _ _ _ Tryz.isAgg26 Tryz.sizeOf26 rfl rfl (colD_take _) (colD_length _)) (.cons (ResV_tmp _ _ rfl) .nil)), rfl, rfl, rfl, rfl, rfl⟩

-- loop.example/g01362/spec.l01Around
def spec_l01Around_l0 (p0 : Col) (p1 : Int) (p2 : Int) : Nat → Int → Int → Option (Int)
 | 0, _, _ => none
 | k0 + 1, x1, x2 => (if decide (x2 < p0.p) then (((if !decide (x2 = p1) then (spec_l01At p0 p1 x2).bind fun r5 => some (decide (r5 = p2)) else some false) : Option (Bool)).bind fun s6 => (if s6 then (if 0 ≤ IntKind.u64.wrap x2 then some (bOr .i64 x1 (bShl .i64 1 (IntKind.u64.wrap x2))) else none) else some x1) : Option (Int)).bind fun s9 => spec_l01Around_l0 p0 p1 p2 k0 s9 (w64 (x2 + 1)) else some x1)
def spec_l01Around (k : Nat) (p0 : Col) (p1 : Int) (p2 : Int) : Option (Int) :=
 (spec_l01Around_l0 p0 p1 p2 k 0 0 : Option (Int)).bind fun s10 => some s10
set_option maxRecDepth 100000 in
theorem spec_l01Around_ac (k : Nat) (p0 : Col) (p1 : Int) (p2 : Int) (r : Int) (h : spec_l01Around k p0 p1 p2 = some r) : AC Tryz.prog 139 [.d (.agg (colD p0)), iV p1, iV p2] [] (fun res H' => res = [iV r] ∧ H' = []) := by
 refine AC_of_body true Tryz.func139 rfl Tryz.ntmps139 (rvs := [.tmp 6]) rfl rfl (fun G hG => ?_)
 have hm : G.H.length = 0 := by rw [hG]; rfl
 have hz : zeroG G.H = true := by rw [hG]; rfl
 unfold spec_l01Around at h
 refine kR ?_
 refine AOps_boxI 3 _ _ (.agg (colD p0)) (colD p0) rfl (colD_one _) rfl rfl rfl rfl rfl ?_
 refine kN 1 rfl ?_
 refine kR ?_
 refine kN 1 rfl ?_
 refine kB (fun s10 => [(7, iV s10)]) (fun s10 => []) h (fun s10 h => ?_) (fun s10 h => ?_)
 ·refine kR ?_
  refine kN 1 rfl ?_
  refine ACode_block ?_
  refine ACode_loopW (fun k0 E H => ∃ (x1 : Int) (x2 : Int), E = [(1, iV p1), (2, iV p2), (3, .d (.pv (colD p0) 0)), (7, iV x1), (8, iV x2)] ∧ H = [] ∧ spec_l01Around_l0 p0 p1 p2 k0 x1 x2 = some s10) k _ _ (Weak_keep 0 hm [1, 2, 3, 7, 8] [] _ _ rfl rfl rfl) ⟨_, _, rfl, rfl, h⟩ ?_
  clear h
  rintro k0 E H ⟨x1, x2, rfl, rfl, h⟩
  cases k0 with
  | zero => cases (show (none : Option (Int)) = some _ from h)
  | succ k0 =>
   rw [spec_l01Around_l0] at h
   refine ACode_seq ?_
   refine kR ?_
   refine kM 1 rfl ?_
   refine AOps_q 10 _ rfl rfl rfl (QOp_fieldAddr_pv _ _ _ _ _ 0 _ _ rfl Tryz.underlying26 rfl _ Tryz.sizeOf2 rfl rfl) ?_
   refine AOps_q 11 _ rfl rfl rfl (QOp_load_pv _ _ _ _ _ rfl Tryz.isAgg2 rfl rfl) ?_
   refine AOps_q 12 _ rfl rfl rfl (QOp_lss _ _ _ _ _ _ _ rfl rfl rfl) ?_
   refine AOps_nil ?_
   refine kI h rfl (fun h _ => ?_) (fun h _ => ?_)
   ·refine ACode_skip ?_
    refine kB (fun s9 => [(1, iV p1), (2, iV p2), (3, .d (.pv (colD p0) 0)), (7, iV s9), (8, iV x2)]) (fun s9 => []) h (fun s9 h => ?_) (fun s9 h => ?_)
    ·refine ACode_block ?_
     refine kB (fun s6 => [(1, iV p1), (2, iV p2), (3, .d (.pv (colD p0) 0)), (7, iV x1), (8, iV x2), (25, bV s6)]) (fun s6 => []) h (fun s6 h => ?_) (fun s6 h => ?_)
     ·refine (ACode_region ?_)
      refine kM 2 rfl ?_
      refine AOps_q 17 _ rfl rfl rfl (QOp_neq _ _ _ _ _ _ _ rfl rfl rfl) ?_
      refine kM 1 rfl ?_
      refine AOps_case 18 _ rfl (fun hb4 => ?_) (fun hb4 => ?_)
      ·have h := iteT hb4 h
       refine AOps_q 19 _ rfl rfl rfl (QOp_loadN_pv _ _ _ _ _ _ rfl Tryz.isAgg26 Tryz.sizeOf26 rfl (colD_all _) (colD_length _)) ?_
       refine kM 2 rfl ?_
       obtain ⟨r5, hr5, h⟩ := bindO h
       refine kC [] 22 (iV r5) [] rfl Tryz.call131 rfl rfl (spec_l01At_ac p0 p1 x2 _ hr5) rfl ?_
       refine kM 1 rfl ?_
       refine AOps_q 24 _ rfl rfl rfl (QOp_eql _ _ _ _ _ _ _ rfl rfl rfl) ?_
       refine kN 1 rfl ?_
       cases h
       exact Weak_keep 0 hm [1, 2, 3, 7, 8, 25] [] _ _ rfl rfl rfl
      have h := iteF hb4 h
      refine AOps_skip 19 rfl rfl rfl ?_
      refine AOps_skip 20 rfl rfl rfl ?_
      refine AOps_skip 21 rfl rfl rfl ?_
      refine AOps_skip 22 rfl rfl rfl ?_
      refine AOps_skip 23 rfl rfl rfl ?_
      refine AOps_skip 24 rfl rfl rfl ?_
      refine kN 1 rfl ?_
      cases h
      exact Weak_keep 0 hm [1, 2, 3, 7, 8, 25] [] _ _ rfl rfl rfl
     refine kI h rfl (fun h _ => ?_) (fun h _ => ?_)
     ·refine (ACode_region ?_)
      refine kM 2 rfl ?_
      refine AOps_q 28 _ rfl rfl rfl (QOp_conv _ _ _ _ _ _ rfl rfl Tryz.underlying56 rfl) ?_
      obtain ⟨hc8, h⟩ := guardO h
      refine AOps_q 29 _ rfl rfl rfl (QOp_shl _ _ _ _ _ _ _ _ hc8 rfl rfl rfl) ?_
      refine AOps_q 30 _ rfl rfl rfl (QOp_or _ _ _ _ _ _ _ rfl rfl rfl) ?_
      refine kN 1 rfl ?_
      cases h
      exact Weak_keep 0 hm [1, 2, 3, 7, 8] [] _ _ rfl rfl rfl
     refine ACode_skip ?_
     cases h
     exact Weak_keep 0 hm [1, 2, 3, 7, 8] [] _ _ rfl rfl rfl
    refine (ACode_region ?_)
    refine kM 1 rfl ?_
    refine AOps_q 14 _ rfl rfl rfl (QOp_add _ _ _ _ _ _ _ rfl rfl rfl) ?_
    refine kN 1 rfl ?_
    exact ⟨k0, _, _, Nat.lt_succ_self _, Weak_keep 0 hm [1, 2, 3, 7, 8] [] _ _ rfl rfl rfl, _, _, rfl, rfl, h⟩
   refine ACode_exit ?_
   cases h
   exact Weak_keep 0 hm [7] [] _ _ rfl rfl rfl
 refine kR ?_
 refine kN 2 rfl ?_
 refine ACode_ret ?_
 cases h
 exact ⟨_, _, fun r a w h => ⟨r, h⟩, _, _, [], _, (.cons (ResV_tmp _ _ rfl) .nil), rfl, rfl, rfl, rfl, rfl⟩

-- loop.example/g01362/spec.l01Ones
def spec_l01Ones_l0 : Nat → Int → Int → Option (Int)
 | 0, _, _ => none
 | k0 + 1, x1, x2 => (if decide (0 < x1) then spec_l01Ones_l0 k0 (w64 (x1.tdiv 2)) (w64 (x2 + (x1.tmod 2))) else some x2)
def spec_l01Ones (k : Nat) (p0 : Int) : Option (Int) :=
 (spec_l01Ones_l0 k p0 0 : Option (Int)).bind fun s4 => some s4
set_option maxRecDepth 100000 in
theorem spec_l01Ones_ac (k : Nat) (p0 : Int) (r : Int) (h : spec_l01Ones k p0 = some r) : AC Tryz.prog 138 [iV p0] [] (fun res H' => res = [iV r] ∧ H' = []) := by
 refine AC_of_body true Tryz.func138 rfl Tryz.ntmps138 (rvs := [.tmp 2]) rfl rfl (fun G hG => ?_)
 have hm : G.H.length = 0 := by rw [hG]; rfl
 have hz : zeroG G.H = true := by rw [hG]; rfl
 unfold spec_l01Ones at h
 refine kR ?_
 refine kN 1 rfl ?_
 refine kR ?_
 refine kN 1 rfl ?_
 refine kB (fun s4 => [(3, iV s4)]) (fun s4 => []) h (fun s4 h => ?_) (fun s4 h => ?_)
 ·refine ACode_block ?_
  refine ACode_loopW (fun k0 E H => ∃ (x1 : Int) (x2 : Int), E = [(0, iV x1), (3, iV x2)] ∧ H = [] ∧ spec_l01Ones_l0 k0 x1 x2 = some s4) k _ _ (Weak_keep 0 hm [0, 3] [] _ _ rfl rfl rfl) ⟨_, _, rfl, rfl, h⟩ ?_
  clear h
  rintro k0 E H ⟨x1, x2, rfl, rfl, h⟩
  cases k0 with
  | zero => cases (show (none : Option (Int)) = some _ from h)
  | succ k0 =>
   rw [spec_l01Ones_l0] at h
   refine ACode_seq ?_
   refine kR ?_
   refine kM 1 rfl ?_
   refine AOps_q 5 _ rfl rfl rfl (QOp_gtr _ _ _ _ _ _ _ rfl rfl rfl) ?_
   refine AOps_nil ?_
   refine kI h rfl (fun h _ => ?_) (fun h _ => ?_)
   ·refine ACode_skip ?_
    refine ACode_seq ?_
    refine ACode_block ?_
    refine (ACode_region ?_)
    refine kM 2 rfl ?_
    refine AOps_q 10 _ rfl rfl rfl (QOp_rem _ _ _ _ _ _ _ (by decide) rfl rfl rfl) ?_
    refine AOps_q 11 _ rfl rfl rfl (QOp_add _ _ _ _ _ _ _ rfl rfl rfl) ?_
    refine kN 1 rfl ?_
    refine (ACode_region ?_)
    refine kM 1 rfl ?_
    refine AOps_q 7 _ rfl rfl rfl (QOp_quo _ _ _ _ _ _ _ (by decide) rfl rfl rfl) ?_
    refine kN 1 rfl ?_
    exact ⟨k0, _, _, Nat.lt_succ_self _, Weak_keep 0 hm [0, 3] [] _ _ rfl rfl rfl, _, _, rfl, rfl, h⟩
   refine ACode_exit ?_
   cases h
   exact Weak_keep 0 hm [3] [] _ _ rfl rfl rfl
 refine kR ?_
 refine kN 2 rfl ?_
 refine ACode_ret ?_
 cases h
 exact ⟨_, _, fun r a w h => ⟨r, h⟩, _, _, [], _, (.cons (ResV_tmp _ _ rfl) .nil), rfl, rfl, rfl, rfl, rfl⟩

-- loop.example/g01362/spec.IsBalanced
def spec_IsBalanced_l1 (k : Nat) (p0 : Col) (x3 : Int) : Nat → Int → Option (Sum (Unit) (Sum (Unit) (Bool × Int)))
 | 0, _ => none
 | k1 + 1, x5 => (if decide (x5 < p0.p) then (spec_l01Around k p0 x5 x3).bind fun r7 => (spec_l01Ones k r7).bind fun r8 => (spec_l01Around k p0 0 x3).bind fun r9 => (spec_l01Ones k r9).bind fun r10 => (if !decide (r8 = r10) then (some (.inr (false, 0))).bind fun rr => some (.inr rr) else spec_IsBalanced_l1 k p0 x3 k1 (w64 (x5 + 1))) else some (.inl ()))
def spec_IsBalanced_l0 (k : Nat) (p0 : Col) : Nat → Int → Option (Sum (Unit) (Bool × Int))
 | 0, _ => none
 | k0 + 1, x3 => (if decide (x3 < p0.k) then (spec_IsBalanced_l1 k p0 x3 k 1 : Option (Sum (Unit) (Sum (Unit) (Bool × Int)))).bind fun os12 => (match os12 with | .inl s12 => spec_IsBalanced_l0 k p0 k0 (w64 (x3 + 1)) | .inr rr => some rr) else some (.inl ()))
def spec_IsBalanced (k : Nat) (p0 : Col) : Option (Bool × Int) :=
 (spec_l01Is k p0).bind fun r1 => (if !r1 then some (false, 1) else (spec_IsBalanced_l0 k p0 k 0 : Option (Sum (Unit) (Bool × Int))).bind fun os13 => (match os13 with | .inl s13 => some (true, 0) | .inr rr => some rr))
set_option maxRecDepth 100000 in
theorem spec_IsBalanced_ac (k : Nat) (p0 : Col) (r : Bool × Int) (h : spec_IsBalanced k p0 = some r) : AC Tryz.prog 63 [.d (.agg (colD p0))] [] (fun res H' => res = [bV r.1, iV r.2] ∧ H' = []) := by
 refine AC_of_body true Tryz.func63 rfl Tryz.ntmps63 (rvs := [.tmp 2, .tmp 3]) rfl rfl (fun G hG => ?_)
 have hm : G.H.length = 0 := by rw [hG]; rfl
 have hz : zeroG G.H = true := by rw [hG]; rfl
 unfold spec_IsBalanced at h
 refine kR ?_
 refine AOps_boxI 1 _ _ (.agg (colD p0)) (colD p0) rfl (colD_one _) rfl rfl rfl rfl rfl ?_
 refine kN 2 rfl ?_
 refine ACode_seq ?_
 refine kR ?_
 refine AOps_q 6 _ rfl rfl rfl (QOp_loadN_pv _ _ _ _ _ _ rfl Tryz.isAgg26 Tryz.sizeOf26 rfl (colD_all _) (colD_length _)) ?_
 obtain ⟨r1, hr1, h⟩ := bindO h
 refine kC [] 7 (bV r1) [] rfl Tryz.call73 rfl rfl (spec_l01Is_ac k p0 _ hr1) rfl ?_
 refine AOps_q 8 _ rfl rfl rfl (QOp_not _ _ _ rfl rfl) ?_
 refine AOps_nil ?_
 refine kI h rfl (fun h _ => ?_) (fun h _ => ?_)
 ·refine kR ?_
  refine kN 2 rfl ?_
  refine ACode_ret ?_
  cases h
  exact ⟨_, _, fun r a w h => ⟨r, h⟩, _, _, [], _, (.cons (ResV_tmp _ _ rfl) (.cons (ResV_tmp _ _ rfl) .nil)), rfl, rfl, rfl, rfl, rfl⟩
 refine ACode_skip ?_
 refine kO (fun s13 => []) (fun s13 => []) h (fun os13 h hks13 => ?_) (fun s13 h => ?_)
 ·refine kR ?_
  refine kN 1 rfl ?_
  refine ACode_block ?_
  refine ACode_loopW (fun k0 E H => ∃ (x3 : Int), E = [(1, .d (.pv (colD p0) 0)), (4, iV x3)] ∧ H = [] ∧ spec_IsBalanced_l0 k p0 k0 x3 = some os13) k _ _ (Weak_keep 0 hm [1, 4] [] _ _ rfl rfl rfl) ⟨_, rfl, rfl, h⟩ ?_
  clear h
  rintro k0 E H ⟨x3, rfl, rfl, h⟩
  cases k0 with
  | zero => cases (show (none : Option (Sum (Unit) (Bool × Int))) = some _ from h)
  | succ k0 =>
   rw [spec_IsBalanced_l0] at h
   refine ACode_seq ?_
   refine kR ?_
   refine kM 1 rfl ?_
   refine AOps_q 10 _ rfl rfl rfl (QOp_fieldAddr_pv _ _ _ _ _ 1 _ _ rfl Tryz.underlying26 rfl _ Tryz.sizeOf2 rfl rfl) ?_
   refine AOps_q 11 _ rfl rfl rfl (QOp_load_pv _ _ _ _ _ rfl Tryz.isAgg2 rfl rfl) ?_
   refine AOps_q 12 _ rfl rfl rfl (QOp_lss _ _ _ _ _ _ _ rfl rfl rfl) ?_
   refine AOps_nil ?_
   refine kI h rfl (fun h _ => ?_) (fun h _ => ?_)
   ·refine ACode_skip ?_
    refine kO (fun s12 => [(1, .d (.pv (colD p0) 0)), (4, iV x3)]) (fun s12 => []) h (fun os12 h hks12 => ?_) (fun s12 h => ?_)
    ·refine ACode_block ?_
     refine kR ?_
     refine kN 1 rfl ?_
     refine ACode_block ?_
     refine ACode_loopW (fun k1 E H => ∃ (x5 : Int), E = [(1, .d (.pv (colD p0) 0)), (4, iV x3), (5, iV x5)] ∧ H = [] ∧ spec_IsBalanced_l1 k p0 x3 k1 x5 = some os12) k _ _ (Weak_keep 0 hm [1, 4, 5] [] _ _ rfl rfl rfl) ⟨_, rfl, rfl, h⟩ ?_
     clear h
     rintro k1 E H ⟨x5, rfl, rfl, h⟩
     cases k1 with
     | zero => cases (show (none : Option (Sum (Unit) (Sum (Unit) (Bool × Int)))) = some _ from h)
     | succ k1 =>
      rw [spec_IsBalanced_l1] at h
      refine ACode_seq ?_
      refine kR ?_
      refine kM 1 rfl ?_
      refine AOps_q 16 _ rfl rfl rfl (QOp_fieldAddr_pv _ _ _ _ _ 0 _ _ rfl Tryz.underlying26 rfl _ Tryz.sizeOf2 rfl rfl) ?_
      refine AOps_q 17 _ rfl rfl rfl (QOp_load_pv _ _ _ _ _ rfl Tryz.isAgg2 rfl rfl) ?_
      refine AOps_q 18 _ rfl rfl rfl (QOp_lss _ _ _ _ _ _ _ rfl rfl rfl) ?_
      refine AOps_nil ?_
      refine kI h rfl (fun h _ => ?_) (fun h _ => ?_)
      ·refine ACode_skip ?_
       refine ACode_seq ?_
       refine ACode_block ?_
       refine ACode_seq (ACode_quiet mixed (by kernel_rfl) ?_)
       refine AQ_q 21 _ rfl rfl rfl (QOp_loadN_pv _ _ _ _ _ _ rfl Tryz.isAgg26 Tryz.sizeOf26 rfl (colD_all _) (colD_length _)) ?_
       refine kQ 2 rfl ?_
       obtain ⟨r7, hr7, h⟩ := bindO h
       refine AQ_call 24 _ _ _ _ _ _ _ _ _ rfl rfl rfl rfl rfl rfl rfl Tryz.call139 rfl rfl rfl (spec_l01Around_ac k p0 x5 x3 _ hr7) ?_
       obtain ⟨r8, hr8, h⟩ := bindO h
       refine AQ_call 25 _ _ _ _ _ _ _ _ _ rfl rfl rfl rfl rfl rfl rfl Tryz.call138 rfl rfl rfl (spec_l01Ones_ac k r7 _ hr8) ?_
       refine AQ_q 26 _ rfl rfl rfl (QOp_loadN_pv _ _ _ _ _ _ rfl Tryz.isAgg26 Tryz.sizeOf26 rfl (colD_all _) (colD_length _)) ?_
       refine kQ 1 rfl ?_
       obtain ⟨r9, hr9, h⟩ := bindO h
       refine AQ_call 28 _ _ _ _ _ _ _ _ _ rfl rfl rfl rfl rfl rfl rfl Tryz.call139 rfl rfl rfl (spec_l01Around_ac k p0 0 x3 _ hr9) ?_
       obtain ⟨r10, hr10, h⟩ := bindO h
       refine AQ_call 29 _ _ _ _ _ _ _ _ _ rfl rfl rfl rfl rfl rfl rfl Tryz.call138 rfl rfl rfl (spec_l01Ones_ac k r9 _ hr10) ?_
       refine AQ_q 30 _ rfl rfl rfl (QOp_neq _ _ _ _ _ _ _ rfl rfl rfl) ?_
       refine AQ_nil ?_
       refine kI h rfl (fun h _ => ?_) (fun h _ => ?_)
       ·refine kR ?_
        refine kN 2 rfl ?_
        refine ACode_ret ?_
        obtain ⟨rr, hz14, h2⟩ := bindO h
        obtain rfl := Option.some.inj h2
        obtain rfl := Option.some.inj (show some rr = some _ from hks12)
        have h := hz14
        cases h
        have h := hks13
        cases h
        exact ⟨_, _, fun r a w h => ⟨r, h⟩, _, _, [], _, (.cons (ResV_tmp _ _ rfl) (.cons (ResV_tmp _ _ rfl) .nil)), rfl, rfl, rfl, rfl, rfl⟩
       refine ACode_skip ?_
       refine (ACode_region ?_)
       refine kM 1 rfl ?_
       refine AOps_q 20 _ rfl rfl rfl (QOp_add _ _ _ _ _ _ _ rfl rfl rfl) ?_
       refine kN 1 rfl ?_
       exact ⟨k1, _, _, Nat.lt_succ_self _, Weak_keep 0 hm [1, 4, 5] [] _ _ rfl rfl rfl, _, rfl, rfl, h⟩
      refine ACode_exit ?_
      cases h
      exact ⟨_, rfl, Weak_keep 0 hm [1, 4] [] _ _ rfl rfl rfl⟩
    refine (ACode_region ?_)
    refine kM 1 rfl ?_
    refine AOps_q 14 _ rfl rfl rfl (QOp_add _ _ _ _ _ _ _ rfl rfl rfl) ?_
    refine kN 1 rfl ?_
    exact ⟨k0, _, _, Nat.lt_succ_self _, Weak_keep 0 hm [1, 4] [] _ _ rfl rfl rfl, _, rfl, rfl, h⟩
   refine ACode_exit ?_
   cases h
   exact ⟨_, rfl, Weak_keep 0 hm [] [] _ _ rfl rfl rfl⟩
 refine kR ?_
 refine kN 2 rfl ?_
 refine ACode_ret ?_
 cases h
 exact ⟨_, _, fun r a w h => ⟨r, h⟩, _, _, [], _, (.cons (ResV_tmp _ _ rfl) (.cons (ResV_tmp _ _ rfl) .nil)), rfl, rfl, rfl, rfl, rfl⟩

-- loop.example/g01362/impl.isOrder
def impl_isOrder_l0 (r2 : List Int) : Nat → Int → Option (Sum (Unit) (Bool))
 | 0, _ => none
 | k0 + 1, x3 => (if decide (x3 < (r2.length : Int)) then (if 0 ≤ x3 ∧ x3 < (r2.length : Int) then (if !decide (x3 = (r2.getD x3.toNat 0)) then some (.inr false) else impl_isOrder_l0 r2 k0 (w64 (x3 + 1))) else none) else some (.inl ()))
def impl_isOrder (k : Nat) (p0 : List Int) (p1 : Int) : Option (Bool) :=
 ((sortedI p0).bind fun r2 => impl_isOrder_l0 r2 k 0 : Option (Sum (Unit) (Bool))).bind fun os7 => (match os7 with | .inl s7 => some (decide ((impl_size p0) = p1)) | .inr rr => some rr)
set_option maxRecDepth 100000 in
theorem impl_isOrder_ac (k : Nat) (p0 : List Int) (p1 : Int) (r : Bool) (h : impl_isOrder k p0 p1 = some r) : AC Tryz.prog 85 [.d (.sl none (intsD p0)), iV p1] [] (fun res H' => res = [bV r] ∧ H' = []) := by
 refine AC_of_body true Tryz.func85 rfl Tryz.ntmps85 (rvs := [.tmp 4]) rfl rfl (fun G hG => ?_)
 have hm : G.H.length = 0 := by rw [hG]; rfl
 have hz : zeroG G.H = true := by rw [hG]; rfl
 unfold impl_isOrder at h
 refine kR ?_
 refine kN 1 rfl ?_
 refine kO (fun s7 => [(0, .d (.sl none (intsD p0))), (1, iV p1)]) (fun s7 => []) h (fun os7 h hks7 => ?_) (fun s7 h => ?_)
 ·refine kR ?_
  refine kM 1 rfl ?_
  refine kC [] 8 (.d (.clo 175 [.pv ([.sl none (intsD p0)]) 0])) [] rfl Tryz.call152 rfl rfl (values_ac p0) rfl ?_
  obtain ⟨r2, hr2, h⟩ := bindO h
  refine kC [] 9 (.d (.sl none (intsD r2))) [] rfl Tryz.call151 rfl rfl (sorted_ac p0 _ hr2) rfl ?_
  refine AOps_q 10 _ rfl rfl rfl (QOp_len_sl _ _ _ _ _ _ _ (intsD_length _) rfl rfl rfl rfl Tryz.underlying27 rfl) ?_
  refine kN 1 rfl ?_
  refine ACode_block ?_
  refine ACode_loopW (fun k0 E H => ∃ (x3 : Int), E = [(0, .d (.sl none (intsD p0))), (1, iV p1), (9, .d (.sl none (intsD r2))), (10, iV (r2.length : Int)), (11, iV x3)] ∧ H = [] ∧ impl_isOrder_l0 r2 k0 x3 = some os7) k _ _ (Weak_keep 0 hm [0, 1, 9, 10, 11] [] _ _ rfl rfl rfl) ⟨_, rfl, rfl, h⟩ ?_
  clear h
  rintro k0 E H ⟨x3, rfl, rfl, h⟩
  cases k0 with
  | zero => cases (show (none : Option (Sum (Unit) (Bool))) = some _ from h)
  | succ k0 =>
   rw [impl_isOrder_l0] at h
   refine kR ?_
   refine AOps_q 12 _ rfl rfl rfl (QOp_lss _ _ _ _ _ _ _ rfl rfl rfl) ?_
   refine AOps_nil ?_
   refine ACode_seq ?_
   refine kI h rfl (fun h _ => ?_) (fun h _ => ?_)
   ·refine ACode_skip ?_
    refine ACode_seq ?_
    refine ACode_block ?_
    refine kR ?_
    refine kM 1 rfl ?_
    obtain ⟨hc5, h⟩ := guardO h
    refine AOps_q 14 _ rfl rfl rfl (QOp_indexAddr_sl _ _ _ _ _ _ _ _ rfl Tryz.underlying27 Tryz.sizeOf2 hc5.1 (by rw [intsD_length]; exact hc5.2) rfl rfl) ?_
    refine AOps_q 15 _ rfl rfl rfl (QOp_load_pv _ _ _ _ _ rfl Tryz.isAgg2 rfl (intsD_get _ _ 0 (by omega))) ?_
    refine kN 2 rfl ?_
    refine kR ?_
    refine kM 2 rfl ?_
    refine AOps_q 18 _ rfl rfl rfl (QOp_neq _ _ _ _ _ _ _ rfl rfl rfl) ?_
    refine AOps_nil ?_
    refine kI h rfl (fun h _ => ?_) (fun h _ => ?_)
    ·refine kR ?_
     refine kN 1 rfl ?_
     refine ACode_ret ?_
     cases h
     have h := hks7
     cases h
     exact ⟨_, _, fun r a w h => ⟨r, h⟩, _, _, [], _, (.cons (ResV_tmp _ _ rfl) .nil), rfl, rfl, rfl, rfl, rfl⟩
    refine ACode_skip ?_
    refine (ACode_region ?_)
    refine AOps_q 19 _ rfl rfl rfl (QOp_add _ _ _ _ _ _ _ rfl rfl rfl) ?_
    refine kN 1 rfl ?_
    exact ⟨k0, _, _, Nat.lt_succ_self _, Weak_keep 0 hm [0, 1, 9, 10, 11] [] _ _ rfl rfl rfl, _, rfl, rfl, h⟩
   refine ACode_exit ?_
   cases h
   exact ⟨_, rfl, Weak_keep 0 hm [0, 1] [] _ _ rfl rfl rfl⟩
 refine kR ?_
 refine kM 1 rfl ?_
 refine kC [] 21 (iV (impl_size p0)) [] rfl Tryz.call143 rfl rfl (impl_size_ac p0) rfl ?_
 refine kM 1 rfl ?_
 refine AOps_q 23 _ rfl rfl rfl (QOp_eql _ _ _ _ _ _ _ rfl rfl rfl) ?_
 refine kN 1 rfl ?_
 refine ACode_ret ?_
 cases h
 exact ⟨_, _, fun r a w h => ⟨r, h⟩, _, _, [], _, (.cons (ResV_tmp _ _ rfl) .nil), rfl, rfl, rfl, rfl, rfl⟩

-- loop.example/g01362/impl.ExchangeColours$1
def impl_ExchangeColours_c1 (k : Nat) (p0 : List Int) (p1 : Col) : Option (Bool) :=
 (impl_isOrder k p0 p1.k).bind fun r1 => some r1
set_option maxRecDepth 100000 in
theorem impl_ExchangeColours_c1_ac (k : Nat) (p0 : List Int) (p1 : Col) (r : Bool) (h : impl_ExchangeColours_c1 k p0 p1 = some r) : AC Tryz.prog 89 [.d (.pv ([.sl none (intsD p0)]) 0), .d (.pv (colD p1) 0)] [] (fun res H' => res = [bV r] ∧ H' = []) := by
 refine AC_of_body true Tryz.func89 rfl Tryz.ntmps89 (rvs := [.tmp 2]) rfl rfl (fun G hG => ?_)
 have hm : G.H.length = 0 := by rw [hG]; rfl
 have hz : zeroG G.H = true := by rw [hG]; rfl
 unfold impl_ExchangeColours_c1 at h
 refine kR ?_
 refine kN 1 rfl ?_
 refine kR ?_
 refine AOps_q 3 _ rfl rfl rfl (QOp_load_pv _ _ _ _ _ rfl Tryz.isAgg27 rfl rfl) ?_
 refine AOps_q 4 _ rfl rfl rfl (QOp_fieldAddr_pv _ _ _ _ _ 1 _ _ rfl Tryz.underlying26 rfl _ Tryz.sizeOf2 rfl rfl) ?_
 refine AOps_q 5 _ rfl rfl rfl (QOp_load_pv _ _ _ _ _ rfl Tryz.isAgg2 rfl rfl) ?_
 obtain ⟨r1, hr1, h⟩ := bindO h
 refine kC [] 6 (bV r1) [] rfl Tryz.call85 rfl rfl (impl_isOrder_ac k p0 p1.k _ hr1) rfl ?_
 refine kN 1 rfl ?_
 refine ACode_ret ?_
 cases h
 exact ⟨_, _, fun r a w h => ⟨r, h⟩, _, _, [], _, (.cons (ResV_tmp _ _ rfl) .nil), rfl, rfl, rfl, rfl, rfl⟩

-- (*loop.example/g01362/impl.Colouring).recoloured$1
def impl_Colouring_recoloured_c1 (p0 : Int) (p1 : Int) (p2 : Int → Option (Int)) (p3 : Col) : Option (Int) :=
 (impl_Colouring_at p3 p0 p1).bind fun r1 => (p2 r1).bind fun r2 => some r2
set_option maxRecDepth 100000 in
theorem impl_Colouring_recoloured_c1_ac (p0 : Int) (p1 : Int) (p2 : Int → Option (Int)) (p3 : Col) (g_p2 : FuncId) (c_p2 : List D) (hg_p2 : ∀ args w, (callFunc g_p2 args).run Tryz.prog w = .ok (.enter g_p2 args) w) (hf_p2 : ∀ (a0 : Int) (r : Int), p2 a0 = some r → AC Tryz.prog g_p2 ([iV a0] ++ c_p2.map AV.d) [] (fun res H' => res = [iV r] ∧ H' = [])) (r : Int) (h : impl_Colouring_recoloured_c1 p0 p1 p2 p3 = some r) : AC Tryz.prog 153 [iV p0, iV p1, .d (.pv ([.clo g_p2 c_p2]) 0), .d (.pv ([.pv (colD p3) 0]) 0)] [] (fun res H' => res = [iV r] ∧ H' = []) := by
 refine AC_of_body true Tryz.func153 rfl Tryz.ntmps153 (rvs := [.tmp 6]) rfl rfl (fun G hG => ?_)
 have hm : G.H.length = 0 := by rw [hG]; rfl
 have hz : zeroG G.H = true := by rw [hG]; rfl
 unfold impl_Colouring_recoloured_c1 at h
 refine kR ?_
 refine kN 1 rfl ?_
 refine ACode_seq (ACode_quiet mixed (by kernel_rfl) ?_)
 refine AQ_q 7 _ rfl rfl rfl (QOp_load_pv _ _ _ _ _ rfl Tryz.isAgg78 rfl rfl) ?_
 refine AQ_q 8 _ rfl rfl rfl (QOp_load_pv _ _ _ _ _ rfl Tryz.isAgg92 rfl rfl) ?_
 refine kQ 2 rfl ?_
 obtain ⟨r1, hr1, h⟩ := bindO h
 refine AQ_call 11 _ _ _ _ _ _ _ _ _ rfl rfl rfl rfl rfl rfl rfl Tryz.call129 rfl rfl rfl (impl_Colouring_at_ac p3 p0 p1 _ hr1) ?_
 obtain ⟨r2, hr2, h⟩ := bindO h
 refine AQ_call 12 _ _ _ _ _ _ _ _ _ rfl rfl rfl rfl rfl rfl rfl hg_p2 rfl rfl (viewA_mapD _) (hf_p2 r1 _ hr2) ?_
 refine kQ 1 rfl ?_
 refine AQ_nil ?_
 refine ACode_ret ?_
 cases h
 exact ⟨_, _, fun r a w h => ⟨r, h⟩, _, _, [], _, (.cons (ResV_tmp _ _ rfl) .nil), rfl, rfl, rfl, rfl, rfl⟩

-- (*loop.example/g01362/impl.Colouring).recoloured
def impl_Colouring_recoloured (k : Nat) (p0 : Col) (p1 : Int) (p2 : Int → Option (Int)) : Option (Col) :=
 (impl_made k p0.p p1 (fun a0 a1 => impl_Colouring_recoloured_c1 a0 a1 p2 p0)).bind fun r1 => some r1
set_option maxRecDepth 100000 in
theorem impl_Colouring_recoloured_ac (k : Nat) (p0 : Col) (p1 : Int) (p2 : Int → Option (Int)) (g_p2 : FuncId) (c_p2 : List D) (hg_p2 : ∀ args w, (callFunc g_p2 args).run Tryz.prog w = .ok (.enter g_p2 args) w) (hf_p2 : ∀ (a0 : Int) (r : Int), p2 a0 = some r → AC Tryz.prog g_p2 ([iV a0] ++ c_p2.map AV.d) [] (fun res H' => res = [iV r] ∧ H' = [])) (r : Col) (h : impl_Colouring_recoloured k p0 p1 p2 = some r) : AC Tryz.prog 90 [.d (.pv (colD p0) 0), iV p1, .d (.clo g_p2 c_p2)] [] (fun res H' => res = [.d (.agg (colD r))] ∧ H' = []) := by
 refine AC_of_body true Tryz.func90 rfl Tryz.ntmps90 (rvs := [.cell 6 26]) rfl rfl (fun G hG => ?_)
 have hm : G.H.length = 0 := by rw [hG]; rfl
 have hz : zeroG G.H = true := by rw [hG]; rfl
 unfold impl_Colouring_recoloured at h
 refine kR ?_
 refine AOps_boxI 3 _ _ (.pv (colD p0) 0) _ rfl (fun c hc => by cases hc with | head => rfl | tail _ h => cases h) rfl rfl rfl rfl rfl ?_
 refine AOps_boxI 5 _ _ (.clo g_p2 c_p2) _ rfl (fun c hc => by cases hc with | head => rfl | tail _ h => cases h) rfl rfl rfl rfl rfl ?_
 refine AOps_alloc 6 _ _ (colD Col.zero) (zero_of Tryz.typeInfo26 rfl) (by rfl) rfl rfl rfl rfl ?_
 refine AOps_nil ?_
 refine kR ?_
 refine AOps_q 7 _ rfl rfl rfl (QOp_load_pv _ _ _ _ _ rfl Tryz.isAgg92 rfl rfl) ?_
 refine AOps_q 8 _ rfl rfl rfl (QOp_nilCheck_pv _ _ _ rfl rfl) ?_
 refine AOps_q 9 _ rfl rfl rfl (QOp_fieldAddr_pv _ _ _ _ _ 0 _ _ rfl Tryz.underlying26 rfl _ Tryz.sizeOf2 rfl rfl) ?_
 refine AOps_q 10 _ rfl rfl rfl (QOp_load_pv _ _ _ _ _ rfl Tryz.isAgg2 rfl rfl) ?_
 refine kM 1 rfl ?_
 refine AOps_q 12 _ rfl rfl rfl (QOp_makeFuncD _ _ _ _ rfl rfl rfl) ?_
 obtain ⟨r1, hr1, h⟩ := bindO h
 refine kC [] 13 (.d (.agg (colD r1))) [.box (colD Col.zero)] rfl Tryz.call148 rfl rfl (impl_made_ac k p0.p p1 (fun a0 a1 => impl_Colouring_recoloured_c1 a0 a1 p2 p0) 153 ([.pv ([.clo g_p2 c_p2]) 0, .pv ([.pv (colD p0) 0]) 0]) Tryz.call153 (fun a0 a1 r h => impl_Colouring_recoloured_c1_ac a0 a1 p2 p0 g_p2 c_p2 hg_p2 hf_p2 r h) _ hr1) rfl ?_
 refine AOps_store _ _ _ _ _ _ (colD _) _ _ rfl rfl rfl rfl rfl rfl rfl (colD_one _) (by rw [colD_length]; exact Tryz.sizeOf26) (by rw [colD_length, colD_length]; decide) (colD_whole _ _) ?_
 refine AOps_nil ?_
 refine ACode_ret ?_
 cases h
 exact ⟨_, _, fun r a w h => ⟨r, h⟩, _, _, [], _, (.cons (ResV_agg _ _ _ _ _ _ Tryz.isAgg26 Tryz.sizeOf26 rfl rfl (colD_take _) (colD_length _)) .nil), rfl, rfl, rfl, rfl, rfl⟩

-- loop.example/g01362/impl.ExchangeColours$2
def impl_ExchangeColours_c2 (p0 : Int) (p1 : List Int) : Option (Int) :=
 (if 0 ≤ p0 ∧ p0 < (p1.length : Int) then some (p1.getD p0.toNat 0) else none)
set_option maxRecDepth 100000 in
theorem impl_ExchangeColours_c2_ac (p0 : Int) (p1 : List Int) (r : Int) (h : impl_ExchangeColours_c2 p0 p1 = some r) : AC Tryz.prog 91 [iV p0, .d (.pv ([.sl none (intsD p1)]) 0)] [] (fun res H' => res = [iV r] ∧ H' = []) := by
 refine AC_of_body true Tryz.func91 rfl Tryz.ntmps91 (rvs := [.tmp 3]) rfl rfl (fun G hG => ?_)
 have hm : G.H.length = 0 := by rw [hG]; rfl
 have hz : zeroG G.H = true := by rw [hG]; rfl
 unfold impl_ExchangeColours_c2 at h
 refine kR ?_
 refine kN 1 rfl ?_
 refine kR ?_
 refine AOps_q 4 _ rfl rfl rfl (QOp_load_pv _ _ _ _ _ rfl Tryz.isAgg27 rfl rfl) ?_
 refine kM 1 rfl ?_
 obtain ⟨hc1, h⟩ := guardO h
 refine AOps_q 6 _ rfl rfl rfl (QOp_indexAddr_sl _ _ _ _ _ _ _ _ rfl Tryz.underlying27 Tryz.sizeOf2 hc1.1 (by rw [intsD_length]; exact hc1.2) rfl rfl) ?_
 refine AOps_q 7 _ rfl rfl rfl (QOp_load_pv _ _ _ _ _ rfl Tryz.isAgg2 rfl (intsD_get _ _ 0 (by omega))) ?_
 refine kN 1 rfl ?_
 refine ACode_ret ?_
 cases h
 exact ⟨_, _, fun r a w h => ⟨r, h⟩, _, _, [], _, (.cons (ResV_tmp _ _ rfl) .nil), rfl, rfl, rfl, rfl, rfl⟩

-- loop.example/g01362/impl.ExchangeColours
def impl_ExchangeColours (k : Nat) (p0 : Col) (p1 : List Int) : Option (Col × Int) :=
 (impl_Colouring_code k p0 (impl_ExchangeColours_c1 k p1 p0)).bind fun r1 => (if !decide (r1 = 0) then some ((⟨0, 0, B136.zero⟩ : Col), r1) else (impl_Colouring_recoloured k p0 p0.k (fun a0 => impl_ExchangeColours_c2 a0 p1)).bind fun r3 => some (r3, 0))
set_option maxRecDepth 100000 in
theorem impl_ExchangeColours_ac (k : Nat) (p0 : Col) (p1 : List Int) (r : Col × Int) (h : impl_ExchangeColours k p0 p1 = some r) : AC Tryz.prog 16 [.d (.agg (colD p0)), .d (.sl none (intsD p1))] [] (fun res H' => res = [.d (.agg (colD r.1)), iV r.2] ∧ H' = []) := by
 refine AC_of_body true Tryz.func16 rfl Tryz.ntmps16 (rvs := [.cell 4 26, .tmp 5]) rfl rfl (fun G hG => ?_)
 have hm : G.H.length = 0 := by rw [hG]; rfl
 have hz : zeroG G.H = true := by rw [hG]; rfl
 unfold impl_ExchangeColours at h
 refine kR ?_
 refine AOps_boxI 2 _ _ (.agg (colD p0)) (colD p0) rfl (colD_one _) rfl rfl rfl rfl rfl ?_
 refine AOps_boxI 3 _ _ (.sl none (intsD p1)) _ rfl (fun c hc => by cases hc with | head => rfl | tail _ h => cases h) rfl rfl rfl rfl rfl ?_
 refine AOps_alloc 4 _ _ (colD Col.zero) (zero_of Tryz.typeInfo26 rfl) (by rfl) rfl rfl rfl rfl ?_
 refine kN 1 rfl ?_
 refine ACode_seq ?_
 refine kR ?_
 refine AOps_q 7 _ rfl rfl rfl (QOp_makeFuncD _ _ _ _ rfl rfl rfl) ?_
 obtain ⟨r1, hr1, h⟩ := bindO h
 refine kC [] 8 (iV r1) [.box (colD Col.zero)] rfl Tryz.call69 rfl rfl (impl_Colouring_code_ac k p0 (impl_ExchangeColours_c1 k p1 p0) 89 ([.pv ([.sl none (intsD p1)]) 0, .pv (colD p0) 0]) Tryz.call89 (fun r h => impl_ExchangeColours_c1_ac k p1 p0 r h) _ hr1) rfl ?_
 refine kN 1 rfl ?_
 refine kR ?_
 refine kM 1 rfl ?_
 refine AOps_q 10 _ rfl rfl rfl (QOp_neq _ _ _ _ _ _ _ rfl rfl rfl) ?_
 refine AOps_nil ?_
 refine kI h rfl (fun h _ => ?_) (fun h _ => ?_)
 ·refine kR ?_
  refine AOps_q 11 _ rfl rfl rfl (QOp_build _ _ [] [] [] _ (colD Col.zero) (colD (⟨0, 0, B136.zero⟩ : Col)) [(0, 1), (1, 1), (2, 136)] rfl rfl Tryz.underlying26 (zero_of Tryz.typeInfo26 rfl) (fun w => by simp [Tryz.sizeOf2, Tryz.sizeOf2, Tryz.sizeOf24]) rfl (by rfl) (by rfl) (fun _ h => nomatch h)) ?_
  refine kM 1 rfl ?_
  refine AOps_store _ _ _ _ _ _ (colD _) _ _ rfl rfl rfl rfl rfl rfl rfl (colD_one _) (by rw [colD_length]; exact Tryz.sizeOf26) (by rw [colD_length, colD_length]; decide) (colD_whole _ _) ?_
  refine kN 1 rfl ?_
  refine ACode_ret ?_
  cases h
  exact ⟨_, _, fun r a w h => ⟨r, h⟩, _, _, [], _, (.cons (ResV_agg _ _ _ _ _ _ Tryz.isAgg26 Tryz.sizeOf26 rfl rfl (colD_take _) (colD_length _)) (.cons (ResV_tmp _ _ rfl) .nil)), rfl, rfl, rfl, rfl, rfl⟩
 refine ACode_skip ?_
 refine kR ?_
 refine AOps_q 13 _ rfl rfl rfl (QOp_fieldAddr_pv _ _ _ _ _ 1 _ _ rfl Tryz.underlying26 rfl _ Tryz.sizeOf2 rfl rfl) ?_
 refine AOps_q 14 _ rfl rfl rfl (QOp_load_pv _ _ _ _ _ rfl Tryz.isAgg2 rfl rfl) ?_
 refine AOps_q 15 _ rfl rfl rfl (QOp_makeFuncD _ _ _ _ rfl rfl rfl) ?_
 obtain ⟨r3, hr3, h⟩ := bindO h
 refine kC [] 16 (.d (.agg (colD r3))) [.box (colD Col.zero)] rfl Tryz.call90 rfl rfl (impl_Colouring_recoloured_ac k p0 p0.k (fun a0 => impl_ExchangeColours_c2 a0 p1) 91 ([.pv ([.sl none (intsD p1)]) 0]) Tryz.call91 (fun a0 r h => impl_ExchangeColours_c2_ac a0 p1 r h) _ hr3) rfl ?_
 refine AOps_store _ _ _ _ _ _ (colD _) _ _ rfl rfl rfl rfl rfl rfl rfl (colD_one _) (by rw [colD_length]; exact Tryz.sizeOf26) (by rw [colD_length, colD_length]; decide) (colD_whole _ _) ?_
 refine kN 1 rfl ?_
 refine ACode_ret ?_
 cases h
 exact ⟨_, _, fun r a w h => ⟨r, h⟩, _, _, [], _, (.cons (ResV_agg _ _ _ _ _ _ Tryz.isAgg26 Tryz.sizeOf26 rfl rfl (colD_take _) (colD_length _)) (.cons (ResV_tmp _ _ rfl) .nil)), rfl, rfl, rfl, rfl, rfl⟩

end Go.Proofs.YtkknnbmmcmhngaaGreat
