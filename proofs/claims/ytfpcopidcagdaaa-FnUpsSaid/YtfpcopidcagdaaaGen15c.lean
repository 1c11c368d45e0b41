/- Plain functions of the program and that the program computes them: printed by the own tool gen.py. No conditions. -/
import Derived.Test.YtfpcopidcagdaaaGen15b
set_option linter.unusedVariables false
set_option linter.unusedSimpArgs false
namespace Go.Proofs.Ytfpcopidcagdaaa
open Go Go.RowKit Ab

-- loop.example/g01362/spec.DrawLongestUp
def spec_DrawLongestUp (k : Nat) (p0 : List UInt8) : Option (Col × Int) :=
  (spec_l10With k p0).bind fun r1 => some (r1.1, r1.2)
set_option maxRecDepth 100000 in
theorem spec_DrawLongestUp_ac (k : Nat) (p0 : List UInt8) (r : Col × Int) (h : spec_DrawLongestUp k p0 = some r) : AC Try.prog 7 [.d (.sl none (bysD p0))] [] (fun res H' => res = [.d (.agg (colD r.1)), iV r.2] ∧ H' = []) := by
  refine AC_of_body true Try.func7 rfl Try.ntmps7 (rvs := [.cell 2 26, .tmp 3]) rfl rfl (fun G hG => ?_)
  have hm : G.H.length = 0 := by rw [hG]; rfl
  have hz : zeroG G.H = true := by rw [hG]; rfl
  unfold spec_DrawLongestUp at h
  refine ACode_seq (ACode_region ?_)
  refine AOps_alloc 2 _ _ (colD Col.zero) (zero_of Try.typeInfo26 rfl) (by rfl) rfl rfl rfl rfl ?_
  refine AOps_q 3 _ rfl rfl rfl (QOp_assign _ _ rfl rfl) ?_
  refine AOps_nil ?_
  refine ACode_seq (ACode_region ?_)
  refine AOps_q 4 _ rfl rfl rfl (QOp_move _ _ rfl rfl) ?_
  obtain ⟨r1, hr1, h⟩ := bindO h
  refine AOps_call [] 5 _ _ _ _ _ _ _ _ _ _ rfl rfl rfl rfl rfl rfl rfl Try.call47 rfl (nodupB_sound _ rfl) rfl rfl rfl (spec_l10With_ac k p0 _ hr1) ?_
  rintro _ _ ⟨rfl, rfl⟩
  refine ⟨(fun _ h => nomatch h), (allc (trivial) (allc (trivial) (fun _ h => nomatch h))), AOps_as 5 (v' := .tup [.d (.agg (colD r1.1)), iV r1.2]) (H' := [.box (colD Col.zero)]) rfl rfl ?_⟩
  refine AOps_q 6 _ rfl rfl rfl (QOp_extract _ _ _ _ rfl rfl rfl) ?_
  refine AOps_q 7 _ rfl rfl rfl (QOp_extract _ _ _ _ rfl rfl rfl) ?_
  refine AOps_store _ _ _ _ _ _ (colD _) _ _ rfl rfl rfl rfl rfl rfl rfl (colD_one _) (by rw [colD_length]; exact Try.sizeOf26) (by rw [colD_length, colD_length]; decide) (colD_whole _ _) ?_
  refine AOps_q 3 _ rfl rfl rfl (QOp_assign _ _ rfl rfl) ?_
  refine AOps_nil ?_
  refine ACode_ret ?_
  cases h
  exact ⟨_, _, fun r a w h => ⟨r, h⟩, _, _, [], _, (.cons (ResV_agg _ _ _ _ _ _ Try.isAgg26 Try.sizeOf26 rfl rfl (colD_take _) (colD_length _)) (.cons (ResV_tmp _ _ rfl) .nil)), rfl, rfl, rfl, rfl, rfl⟩

-- loop.example/g01362/impl.in
def impl_in (p0 : Int) (p1 : Int) (p2 : Int) : Bool :=
  letO (if decide (p1 ≤ p0) then decide (p0 ≤ p2) else false) fun (s2 : Bool) => s2
set_option maxRecDepth 100000 in
theorem impl_in_ac (p0 : Int) (p1 : Int) (p2 : Int) : AC Try.prog 62 [iV p0, iV p1, iV p2] [] (fun res H' => res = [bV (impl_in p0 p1 p2)] ∧ H' = []) := by
  refine AC_of_body true Try.func62 rfl Try.ntmps62 (rvs := [.tmp 6]) rfl rfl (fun G hG => ?_)
  have hm : G.H.length = 0 := by rw [hG]; rfl
  have hz : zeroG G.H = true := by rw [hG]; rfl
  obtain ⟨r, h⟩ : ∃ r, impl_in p0 p1 p2 = r := ⟨_, rfl⟩
  rw [h]
  unfold impl_in at h
  refine ACode_seq (ACode_region ?_)
  refine AOps_q 6 _ rfl rfl rfl (QOp_assign _ _ rfl rfl) ?_
  refine AOps_nil ?_
  obtain ⟨s2, hss2, hks2⟩ := letS h
  clear h
  refine ACode_seqJ (fun E' H' => Weak 15 G E' H' [(6, bV s2)] []) ?_ ?_
  · have h := hss2
    clear hss2
    refine (ACode_region ?_)
    refine AOps_q 7 _ rfl rfl rfl (QOp_move _ _ rfl rfl) ?_
    refine AOps_q 8 _ rfl rfl rfl (QOp_move _ _ rfl rfl) ?_
    refine AOps_q 9 _ rfl rfl rfl (QOp_geq _ _ _ _ _ _ _ rfl rfl rfl) ?_
    refine AOps_q 10 _ rfl rfl rfl (QOp_move _ _ rfl rfl) ?_
    refine AOps_case 10 _ rfl (fun hb1 => ?_) (fun hb1 => ?_)
    · have h := iteT hb1 h
      refine AOps_q 11 _ rfl rfl rfl (QOp_move _ _ rfl rfl) ?_
      refine AOps_q 12 _ rfl rfl rfl (QOp_move _ _ rfl rfl) ?_
      refine AOps_q 13 _ rfl rfl rfl (QOp_leq _ _ _ _ _ _ _ rfl rfl rfl) ?_
      refine AOps_q 14 _ rfl rfl rfl (QOp_pick_t _ _ _ _ rfl rfl rfl) ?_
      refine AOps_q 6 _ rfl rfl rfl (QOp_assign _ _ rfl rfl) ?_
      refine AOps_nil ?_
      cases h
      exact Weak_keep 0 hm [6] [] _ _ rfl rfl rfl
    · have h := iteF hb1 h
      refine AOps_skip 11 rfl rfl rfl ?_
      refine AOps_skip 12 rfl rfl rfl ?_
      refine AOps_skip 13 rfl rfl rfl ?_
      refine AOps_q 14 _ rfl rfl rfl (QOp_pick_f _ _ _ _ rfl rfl rfl) ?_
      refine AOps_q 6 _ rfl rfl rfl (QOp_assign _ _ rfl rfl) ?_
      refine AOps_nil ?_
      cases h
      exact Weak_keep 0 hm [6] [] _ _ rfl rfl rfl
  intro E' H' hw
  refine ACode_weak hw ?_
  have h := hks2
  refine ACode_ret ?_
  cases h
  exact ⟨_, _, fun r a w h => ⟨r, h⟩, _, _, [], _, (.cons (ResV_tmp _ _ rfl) .nil), rfl, rfl, rfl, rfl, rfl⟩

-- (*loop.example/g01362/impl.Colouring).edges
def impl_Colouring_edges (p0 : Col) : Int :=
  w64 ((w64 (p0.p * (w64 (p0.p - 1)))).tdiv 2)
set_option maxRecDepth 100000 in
theorem impl_Colouring_edges_ac (p0 : Col) : AC Try.prog 130 [.d (.pv (colD p0) 0)] [] (fun res H' => res = [iV (impl_Colouring_edges p0)] ∧ H' = []) := by
  refine AC_of_body true Try.func130 rfl Try.ntmps130 (rvs := [.tmp 2]) rfl rfl (fun G hG => ?_)
  have hm : G.H.length = 0 := by rw [hG]; rfl
  have hz : zeroG G.H = true := by rw [hG]; rfl
  obtain ⟨r, h⟩ : ∃ r, impl_Colouring_edges p0 = r := ⟨_, rfl⟩
  rw [h]
  unfold impl_Colouring_edges at h
  refine ACode_seq (ACode_region ?_)
  refine AOps_q 2 _ rfl rfl rfl (QOp_assign _ _ rfl rfl) ?_
  refine AOps_nil ?_
  refine ACode_seq (ACode_quiet mixed (by kernel_rfl) ?_)
  refine AQ_q 3 _ rfl rfl rfl (QOp_move _ _ rfl rfl) ?_
  refine AQ_q 4 _ rfl rfl rfl (QOp_nilCheck_pv _ _ _ rfl rfl) ?_
  refine AQ_q 5 _ rfl rfl rfl (QOp_fieldAddr_pv _ _ _ _ _ 0 _ _ rfl Try.underlying26 rfl _ Try.sizeOf2 rfl rfl) ?_
  refine AQ_q 6 _ rfl rfl rfl (QOp_load_pv _ _ _ _ _ rfl Try.isAgg2 rfl rfl) ?_
  refine AQ_q 7 _ rfl rfl rfl (QOp_move _ _ rfl rfl) ?_
  refine AQ_q 8 _ rfl rfl rfl (QOp_nilCheck_pv _ _ _ rfl rfl) ?_
  refine AQ_q 9 _ rfl rfl rfl (QOp_fieldAddr_pv _ _ _ _ _ 0 _ _ rfl Try.underlying26 rfl _ Try.sizeOf2 rfl rfl) ?_
  refine AQ_q 10 _ rfl rfl rfl (QOp_load_pv _ _ _ _ _ rfl Try.isAgg2 rfl rfl) ?_
  refine AQ_q 11 _ rfl rfl rfl (QOp_sub _ _ _ _ _ _ _ rfl rfl rfl) ?_
  refine AQ_q 12 _ rfl rfl rfl (QOp_mul _ _ _ _ _ _ _ rfl rfl rfl) ?_
  refine AQ_q 13 _ rfl rfl rfl (QOp_quo _ _ _ _ _ _ _ (by decide) rfl rfl rfl) ?_
  refine AQ_q 2 _ rfl rfl rfl (QOp_assign _ _ rfl rfl) ?_
  refine AQ_nil ?_
  refine ACode_ret ?_
  cases h
  exact ⟨_, _, fun r a w h => ⟨r, h⟩, _, _, [], _, (.cons (ResV_tmp _ _ rfl) .nil), rfl, rfl, rfl, rfl, rfl⟩

-- (*loop.example/g01362/impl.Colouring).isColouring
def impl_Colouring_isColouring_l0 (k : Nat) (p0 : Col) : Nat → Int → Option (Sum (Unit) (Bool))
  | 0, _ => none
  | k0 + 1, x7 => (if decide (x7 < 136) then ((if 0 ≤ x7 ∧ x7 < 136 then letO (if decide (p0.k ≤ ((p0.e.get x7.toNat).toNat : Int)) then true else (if decide ((impl_Colouring_edges p0) ≤ x7) then !decide (((p0.e.get x7.toNat).toNat : Int) = 0) else false)) fun (s13 : Bool) => (if s13 then (some (.inr false)).bind fun rr => some (.inr rr) else some (.inl ())) else none) : Option (Sum (Unit) (Sum (Unit) (Bool)))).bind fun os15 => (match os15 with | .inl s15 => impl_Colouring_isColouring_l0 k p0 k0 (w64 (x7 + 1)) | .inr rr => some rr) else some (.inl ()))
def impl_Colouring_isColouring (k : Nat) (p0 : Col) : Option (Bool) :=
  (letO (if !(impl_in p0.p 1 17) then true else !(impl_in p0.k 1 4)) fun (s4 : Bool) => (if s4 then some (.inr false) else some (.inl ())) : Option (Sum (Unit) (Bool))).bind fun os6 => (match os6 with | .inl s6 => (impl_Colouring_isColouring_l0 k p0 k 0 : Option (Sum (Unit) (Bool))).bind fun os16 => (match os16 with | .inl s16 => some true | .inr rr => some rr) | .inr rr => some rr)
set_option maxRecDepth 100000 in
theorem impl_Colouring_isColouring_ac (k : Nat) (p0 : Col) (r : Bool) (h : impl_Colouring_isColouring k p0 = some r) : AC Try.prog 115 [.d (.pv (colD p0) 0)] [] (fun res H' => res = [bV r] ∧ H' = []) := by
  refine AC_of_body true Try.func115 rfl Try.ntmps115 (rvs := [.tmp 2]) rfl rfl (fun G hG => ?_)
  have hm : G.H.length = 0 := by rw [hG]; rfl
  have hz : zeroG G.H = true := by rw [hG]; rfl
  unfold impl_Colouring_isColouring at h
  refine ACode_seq (ACode_region ?_)
  refine AOps_q 2 _ rfl rfl rfl (QOp_assign _ _ rfl rfl) ?_
  refine AOps_nil ?_
  obtain ⟨os6, hss6, hks6⟩ := bindO h
  clear h
  refine ACode_seqJ (fun E' H' => ∃ s6 : Unit, os6 = .inl s6 ∧ Weak 45 G E' H' [(0, .d (.pv (colD p0) 0))] []) ?_ ?_
  · have h := hss6
    clear hss6
    obtain ⟨s4, hss4, hks4⟩ := letS h
    clear h
    refine ACode_seqJ (fun E' H' => Weak 45 G E' H' [(0, .d (.pv (colD p0) 0)), (18, bV s4)] []) ?_ ?_
    · have h := hss4
      clear hss4
      refine (ACode_region ?_)
      refine AOps_q 5 _ rfl rfl rfl (QOp_move _ _ rfl rfl) ?_
      refine AOps_q 6 _ rfl rfl rfl (QOp_nilCheck_pv _ _ _ rfl rfl) ?_
      refine AOps_q 7 _ rfl rfl rfl (QOp_fieldAddr_pv _ _ _ _ _ 0 _ _ rfl Try.underlying26 rfl _ Try.sizeOf2 rfl rfl) ?_
      refine AOps_q 8 _ rfl rfl rfl (QOp_load_pv _ _ _ _ _ rfl Try.isAgg2 rfl rfl) ?_
      refine AOps_call [] 9 _ _ _ _ _ _ _ _ _ _ rfl rfl rfl rfl rfl rfl rfl Try.call62 rfl (nodupB_sound _ rfl) rfl rfl rfl (impl_in_ac p0.p 1 17) ?_
      rintro _ _ ⟨rfl, rfl⟩
      refine ⟨(fun _ h => nomatch h), (allc (trivial) (fun _ h => nomatch h)), AOps_as 9 (v' := bV (impl_in p0.p 1 17)) (H' := []) rfl rfl ?_⟩
      refine AOps_q 10 _ rfl rfl rfl (QOp_not _ _ _ rfl rfl) ?_
      refine AOps_q 11 _ rfl rfl rfl (QOp_move _ _ rfl rfl) ?_
      refine AOps_case 11 _ rfl (fun hb2 => ?_) (fun hb2 => ?_)
      · have h := iteT hb2 h
        refine AOps_skip 12 rfl rfl rfl ?_
        refine AOps_skip 13 rfl rfl rfl ?_
        refine AOps_skip 14 rfl rfl rfl ?_
        refine AOps_skip 15 rfl rfl rfl ?_
        refine AOps_skip 16 rfl rfl rfl ?_
        refine AOps_skip 17 rfl rfl rfl ?_
        refine AOps_q 18 _ rfl rfl rfl (QOp_pick_t _ _ _ _ rfl rfl rfl) ?_
        refine AOps_nil ?_
        cases h
        exact Weak_keep 0 hm [0, 18] [] _ _ rfl rfl rfl
      · have h := iteF hb2 h
        refine AOps_q 12 _ rfl rfl rfl (QOp_move _ _ rfl rfl) ?_
        refine AOps_q 13 _ rfl rfl rfl (QOp_nilCheck_pv _ _ _ rfl rfl) ?_
        refine AOps_q 14 _ rfl rfl rfl (QOp_fieldAddr_pv _ _ _ _ _ 1 _ _ rfl Try.underlying26 rfl _ Try.sizeOf2 rfl rfl) ?_
        refine AOps_q 15 _ rfl rfl rfl (QOp_load_pv _ _ _ _ _ rfl Try.isAgg2 rfl rfl) ?_
        refine AOps_call [] 16 _ _ _ _ _ _ _ _ _ _ rfl rfl rfl rfl rfl rfl rfl Try.call62 rfl (nodupB_sound _ rfl) rfl rfl rfl (impl_in_ac p0.k 1 4) ?_
        rintro _ _ ⟨rfl, rfl⟩
        refine ⟨(fun _ h => nomatch h), (allc (trivial) (fun _ h => nomatch h)), AOps_as 16 (v' := bV (impl_in p0.k 1 4)) (H' := []) rfl rfl ?_⟩
        refine AOps_q 17 _ rfl rfl rfl (QOp_not _ _ _ rfl rfl) ?_
        refine AOps_q 18 _ rfl rfl rfl (QOp_pick_f _ _ _ _ rfl rfl rfl) ?_
        refine AOps_nil ?_
        cases h
        exact Weak_keep 0 hm [0, 18] [] _ _ rfl rfl rfl
    intro E' H' hw
    refine ACode_weak hw ?_
    have h := hks4
    refine ACode_cond _ rfl (fun hb5 => ?_) (fun hb5 => ?_)
    · have h := iteT hb5 h
      refine ACode_seq (ACode_region ?_)
      refine AOps_q 2 _ rfl rfl rfl (QOp_assign _ _ rfl rfl) ?_
      refine AOps_nil ?_
      refine ACode_ret ?_
      cases h
      have h := hks6
      cases h
      exact ⟨_, _, fun r a w h => ⟨r, h⟩, _, _, [], _, (.cons (ResV_tmp _ _ rfl) .nil), rfl, rfl, rfl, rfl, rfl⟩
    · have h := iteF hb5 h
      refine ACode_skip ?_
      cases h
      exact ⟨_, rfl, Weak_keep 0 hm [0] [] _ _ rfl rfl rfl⟩
  rintro E' H' ⟨s6, rfl, hw⟩
  refine ACode_weak hw ?_
  have h := hks6
  obtain ⟨os16, hss16, hks16⟩ := bindO h
  clear h
  refine ACode_seqJ (fun E' H' => ∃ s16 : Unit, os16 = .inl s16 ∧ Weak 45 G E' H' [] []) ?_ ?_
  · have h := hss16
    clear hss16
    refine ACode_seq (ACode_region ?_)
    refine AOps_q 19 _ rfl rfl rfl (QOp_move _ _ rfl rfl) ?_
    refine AOps_q 20 _ rfl rfl rfl (QOp_nilCheck_pv _ _ _ rfl rfl) ?_
    refine AOps_q 21 _ rfl rfl rfl (QOp_fieldAddr_pv _ _ _ _ _ 2 _ _ rfl Try.underlying26 rfl _ Try.sizeOf24 rfl rfl) ?_
    refine AOps_q 22 _ rfl rfl rfl (QOp_loadN_pv _ _ _ _ _ _ rfl Try.isAgg24 Try.sizeOf24 rfl (colD_edges _) (byD_length _)) ?_
    refine AOps_q 23 _ rfl rfl rfl (QOp_move _ _ rfl rfl) ?_
    refine AOps_nil ?_
    refine ACode_block ?_
    refine ACode_loopW (fun k0 E H => ∃ (x7 : Int), E = [(0, .d (.pv (colD p0) 0)), (22, .d (.agg (byD p0.e))), (23, iV x7)] ∧ H = [] ∧ impl_Colouring_isColouring_l0 k p0 k0 x7 = some os16) k _ _ (Weak_keep 0 hm [0, 22, 23] [] _ _ rfl rfl rfl) ⟨_, rfl, rfl, h⟩ ?_
    clear h
    rintro k0 E H ⟨x7, rfl, rfl, h⟩
    cases k0 with
    | zero => cases (show (none : Option (Sum (Unit) (Bool))) = some _ from h)
    | succ k0 =>
      rw [impl_Colouring_isColouring_l0] at h
      refine ACode_seq (ACode_region ?_)
      refine AOps_q 24 _ rfl rfl rfl (QOp_lss _ _ _ _ _ _ _ rfl rfl rfl) ?_
      refine AOps_nil ?_
      refine ACode_seq ?_
      refine ACode_cond _ rfl (fun hb8 => ?_) (fun hb8 => ?_)
      · have h := iteT hb8 h
        refine ACode_skip ?_
        obtain ⟨os15, hss15, hks15⟩ := bindO h
        clear h
        refine ACode_seqJ (fun E' H' => ∃ s15 : Unit, os15 = .inl s15 ∧ Weak 45 G E' H' [(0, .d (.pv (colD p0) 0)), (22, .d (.agg (byD p0.e))), (23, iV x7)] []) ?_ ?_
        · have h := hss15
          clear hss15
          refine ACode_block ?_
          refine ACode_seq (ACode_region ?_)
          refine AOps_q 25 _ rfl rfl rfl (QOp_move _ _ rfl rfl) ?_
          obtain ⟨hc9, h⟩ := guardO h
          refine AOps_q 26 _ rfl rfl rfl (QOp_index_agg _ _ _ _ _ _ _ _ _ rfl Try.underlying24 Try.sizeOf5 Try.isAgg5 hc9.1 hc9.2 rfl rfl (byD_get _ _ (by omega))) ?_
          refine AOps_q 3 _ rfl rfl rfl (QOp_assign _ _ rfl rfl) ?_
          refine AOps_q 4 _ rfl rfl rfl (QOp_assign _ _ rfl rfl) ?_
          refine AOps_nil ?_
          obtain ⟨s13, hss13, hks13⟩ := letS h
          clear h
          refine ACode_seqJ (fun E' H' => Weak 45 G E' H' [(0, .d (.pv (colD p0) 0)), (22, .d (.agg (byD p0.e))), (23, iV x7), (43, bV s13)] []) ?_ ?_
          · have h := hss13
            clear hss13
            refine (ACode_region ?_)
            refine AOps_q 27 _ rfl rfl rfl (QOp_move _ _ rfl rfl) ?_
            refine AOps_q 28 _ rfl rfl rfl (QOp_fromByte _ _ _ _ _ rfl rfl Try.underlying2 wrap_i64_byte rfl) ?_
            refine AOps_q 29 _ rfl rfl rfl (QOp_move _ _ rfl rfl) ?_
            refine AOps_q 30 _ rfl rfl rfl (QOp_nilCheck_pv _ _ _ rfl rfl) ?_
            refine AOps_q 31 _ rfl rfl rfl (QOp_fieldAddr_pv _ _ _ _ _ 1 _ _ rfl Try.underlying26 rfl _ Try.sizeOf2 rfl rfl) ?_
            refine AOps_q 32 _ rfl rfl rfl (QOp_load_pv _ _ _ _ _ rfl Try.isAgg2 rfl rfl) ?_
            refine AOps_q 33 _ rfl rfl rfl (QOp_geq _ _ _ _ _ _ _ rfl rfl rfl) ?_
            refine AOps_q 34 _ rfl rfl rfl (QOp_move _ _ rfl rfl) ?_
            refine AOps_case 34 _ rfl (fun hb10 => ?_) (fun hb10 => ?_)
            · have h := iteT hb10 h
              refine AOps_skip 35 rfl rfl rfl ?_
              refine AOps_skip 36 rfl rfl rfl ?_
              refine AOps_skip 37 rfl rfl rfl ?_
              refine AOps_skip 38 rfl rfl rfl ?_
              refine AOps_skip 39 rfl rfl rfl ?_
              refine AOps_skip 40 rfl rfl rfl ?_
              refine AOps_skip 41 rfl rfl rfl ?_
              refine AOps_skip 42 rfl rfl rfl ?_
              refine AOps_q 43 _ rfl rfl rfl (QOp_pick_t _ _ _ _ rfl rfl rfl) ?_
              refine AOps_nil ?_
              cases h
              exact Weak_keep 0 hm [0, 22, 23, 43] [] _ _ rfl rfl rfl
            · have h := iteF hb10 h
              refine AOps_q 35 _ rfl rfl rfl (QOp_move _ _ rfl rfl) ?_
              refine AOps_q 36 _ rfl rfl rfl (QOp_move _ _ rfl rfl) ?_
              refine AOps_call [] 37 _ _ _ _ _ _ _ _ _ _ rfl rfl rfl rfl rfl rfl rfl Try.call130 rfl (nodupB_sound _ rfl) rfl rfl rfl (impl_Colouring_edges_ac p0) ?_
              rintro _ _ ⟨rfl, rfl⟩
              refine ⟨(fun _ h => nomatch h), (allc (trivial) (fun _ h => nomatch h)), AOps_as 37 (v' := iV (impl_Colouring_edges p0)) (H' := []) rfl rfl ?_⟩
              refine AOps_q 38 _ rfl rfl rfl (QOp_geq _ _ _ _ _ _ _ rfl rfl rfl) ?_
              refine AOps_q 39 _ rfl rfl rfl (QOp_move _ _ rfl rfl) ?_
              refine AOps_case 39 _ rfl (fun hb12 => ?_) (fun hb12 => ?_)
              · have h := iteT hb12 h
                refine AOps_q 40 _ rfl rfl rfl (QOp_move _ _ rfl rfl) ?_
                refine AOps_q 41 _ rfl rfl rfl (QOp_neq _ _ _ _ _ _ _ rfl rfl rfl) ?_
                refine AOps_q 42 _ rfl rfl rfl (QOp_pick_t _ _ _ _ rfl rfl rfl) ?_
                refine AOps_q 43 _ rfl rfl rfl (QOp_pick_f _ _ _ _ rfl rfl rfl) ?_
                refine AOps_nil ?_
                cases h
                exact Weak_keep 0 hm [0, 22, 23, 43] [] _ _ rfl rfl rfl
              · have h := iteF hb12 h
                refine AOps_skip 40 rfl rfl rfl ?_
                refine AOps_skip 41 rfl rfl rfl ?_
                refine AOps_q 42 _ rfl rfl rfl (QOp_pick_f _ _ _ _ rfl rfl rfl) ?_
                refine AOps_q 43 _ rfl rfl rfl (QOp_pick_f _ _ _ _ rfl rfl rfl) ?_
                refine AOps_nil ?_
                cases h
                exact Weak_keep 0 hm [0, 22, 23, 43] [] _ _ rfl rfl rfl
          intro E' H' hw
          refine ACode_weak hw ?_
          have h := hks13
          refine ACode_cond _ rfl (fun hb14 => ?_) (fun hb14 => ?_)
          · have h := iteT hb14 h
            refine ACode_seq (ACode_region ?_)
            refine AOps_q 2 _ rfl rfl rfl (QOp_assign _ _ rfl rfl) ?_
            refine AOps_nil ?_
            refine ACode_ret ?_
            obtain ⟨rr, hz17, h2⟩ := bindO h
            obtain rfl := Option.some.inj h2
            obtain rfl := Option.some.inj (show some rr = some _ from hks15)
            have h := hz17
            cases h
            have h := hks16
            cases h
            exact ⟨_, _, fun r a w h => ⟨r, h⟩, _, _, [], _, (.cons (ResV_tmp _ _ rfl) .nil), rfl, rfl, rfl, rfl, rfl⟩
          · have h := iteF hb14 h
            refine ACode_skip ?_
            cases h
            exact ⟨_, rfl, Weak_keep 0 hm [0, 22, 23] [] _ _ rfl rfl rfl⟩
        rintro E' H' ⟨s15, rfl, hw⟩
        refine ACode_weak hw ?_
        have h := hks15
        refine (ACode_region ?_)
        refine AOps_q 44 _ rfl rfl rfl (QOp_add _ _ _ _ _ _ _ rfl rfl rfl) ?_
        refine AOps_q 23 _ rfl rfl rfl (QOp_move _ _ rfl rfl) ?_
        refine AOps_nil ?_
        exact ⟨k0, _, _, Nat.lt_succ_self _, Weak_keep 0 hm [0, 22, 23] [] _ _ rfl rfl rfl, _, rfl, rfl, h⟩
      · have h := iteF hb8 h
        refine ACode_exit ?_
        cases h
        exact ⟨_, rfl, Weak_keep 0 hm [] [] _ _ rfl rfl rfl⟩
  rintro E' H' ⟨s16, rfl, hw⟩
  refine ACode_weak hw ?_
  have h := hks16
  refine ACode_seq (ACode_region ?_)
  refine AOps_q 2 _ rfl rfl rfl (QOp_assign _ _ rfl rfl) ?_
  refine AOps_nil ?_
  refine ACode_ret ?_
  cases h
  exact ⟨_, _, fun r a w h => ⟨r, h⟩, _, _, [], _, (.cons (ResV_tmp _ _ rfl) .nil), rfl, rfl, rfl, rfl, rfl⟩

-- (*loop.example/g01362/impl.Colouring).code
def impl_Colouring_code (k : Nat) (p0 : Col) (p1 : Option (Bool)) : Option (Int) :=
  (impl_Colouring_isColouring k p0).bind fun r1 => (if !r1 then some 1 else (p1).bind fun r3 => (if !r3 then some 2 else some 0))
set_option maxRecDepth 100000 in
theorem impl_Colouring_code_ac (k : Nat) (p0 : Col) (p1 : Option (Bool)) (g_p1 : FuncId) (c_p1 : List D) (hg_p1 : ∀ args w, (callFunc g_p1 args).run Try.prog w = .ok (.enter g_p1 args) w) (hf_p1 : ∀ (r : Bool), p1 = some r → AC Try.prog g_p1 ([] ++ c_p1.map AV.d) [] (fun res H' => res = [bV r] ∧ H' = [])) (r : Int) (h : impl_Colouring_code k p0 p1 = some r) : AC Try.prog 68 [.d (.pv (colD p0) 0), .d (.clo g_p1 c_p1)] [] (fun res H' => res = [iV r] ∧ H' = []) := by
  refine AC_of_body true Try.func68 rfl Try.ntmps68 (rvs := [.tmp 4]) rfl rfl (fun G hG => ?_)
  have hm : G.H.length = 0 := by rw [hG]; rfl
  have hz : zeroG G.H = true := by rw [hG]; rfl
  unfold impl_Colouring_code at h
  refine ACode_seq (ACode_region ?_)
  refine AOps_q 4 _ rfl rfl rfl (QOp_assign _ _ rfl rfl) ?_
  refine AOps_nil ?_
  refine ACode_seq ?_
  refine ACode_block ?_
  refine ACode_seq (ACode_region ?_)
  refine AOps_q 6 _ rfl rfl rfl (QOp_move _ _ rfl rfl) ?_
  obtain ⟨r1, hr1, h⟩ := bindO h
  refine AOps_call [] 7 _ _ _ _ _ _ _ _ _ _ rfl rfl rfl rfl rfl rfl rfl Try.call115 rfl (nodupB_sound _ rfl) rfl rfl rfl (impl_Colouring_isColouring_ac k p0 _ hr1) ?_
  rintro _ _ ⟨rfl, rfl⟩
  refine ⟨(fun _ h => nomatch h), (allc (trivial) (fun _ h => nomatch h)), AOps_as 7 (v' := bV r1) (H' := []) rfl rfl ?_⟩
  refine AOps_q 8 _ rfl rfl rfl (QOp_not _ _ _ rfl rfl) ?_
  refine AOps_q 5 _ rfl rfl rfl (QOp_assign _ _ rfl rfl) ?_
  refine AOps_nil ?_
  refine ACode_cond _ rfl (fun hb2 => ?_) (fun hb2 => ?_)
  · have h := iteT hb2 h
    refine ACode_seq (ACode_region ?_)
    refine AOps_q 4 _ rfl rfl rfl (QOp_assign _ _ rfl rfl) ?_
    refine AOps_nil ?_
    refine ACode_ret ?_
    cases h
    exact ⟨_, _, fun r a w h => ⟨r, h⟩, _, _, [], _, (.cons (ResV_tmp _ _ rfl) .nil), rfl, rfl, rfl, rfl, rfl⟩
  · have h := iteF hb2 h
    refine ACode_seq (ACode_region ?_)
    refine AOps_q 10 _ rfl rfl rfl (QOp_move _ _ rfl rfl) ?_
    obtain ⟨r3, hr3, h⟩ := bindO h
    refine AOps_call [] 11 _ _ _ _ _ _ _ _ _ _ rfl rfl rfl rfl rfl rfl rfl hg_p1 rfl (nodupB_sound _ rfl) rfl rfl (viewA_mapD _) (hf_p1 _ hr3) ?_
    rintro _ _ ⟨rfl, rfl⟩
    refine ⟨(fun _ h => nomatch h), (allc (trivial) (fun _ h => nomatch h)), AOps_as 11 (v' := bV r3) (H' := []) rfl rfl ?_⟩
    refine AOps_q 12 _ rfl rfl rfl (QOp_not _ _ _ rfl rfl) ?_
    refine AOps_q 9 _ rfl rfl rfl (QOp_assign _ _ rfl rfl) ?_
    refine AOps_nil ?_
    refine ACode_cond _ rfl (fun hb4 => ?_) (fun hb4 => ?_)
    · have h := iteT hb4 h
      refine ACode_seq (ACode_region ?_)
      refine AOps_q 4 _ rfl rfl rfl (QOp_assign _ _ rfl rfl) ?_
      refine AOps_nil ?_
      refine ACode_ret ?_
      cases h
      exact ⟨_, _, fun r a w h => ⟨r, h⟩, _, _, [], _, (.cons (ResV_tmp _ _ rfl) .nil), rfl, rfl, rfl, rfl, rfl⟩
    · have h := iteF hb4 h
      refine ACode_skip ?_
      refine ACode_seq (ACode_region ?_)
      refine AOps_q 4 _ rfl rfl rfl (QOp_assign _ _ rfl rfl) ?_
      refine AOps_nil ?_
      refine ACode_ret ?_
      cases h
      exact ⟨_, _, fun r a w h => ⟨r, h⟩, _, _, [], _, (.cons (ResV_tmp _ _ rfl) .nil), rfl, rfl, rfl, rfl, rfl⟩

-- (*loop.example/g01362/impl.Colouring).hasColour
def impl_Colouring_hasColour (p0 : Col) (p1 : Int) : Bool :=
  (impl_in p1 0 (w64 (p0.k - 1)))
set_option maxRecDepth 100000 in
theorem impl_Colouring_hasColour_ac (p0 : Col) (p1 : Int) : AC Try.prog 77 [.d (.pv (colD p0) 0), iV p1] [] (fun res H' => res = [bV (impl_Colouring_hasColour p0 p1)] ∧ H' = []) := by
  refine AC_of_body true Try.func77 rfl Try.ntmps77 (rvs := [.tmp 4]) rfl rfl (fun G hG => ?_)
  have hm : G.H.length = 0 := by rw [hG]; rfl
  have hz : zeroG G.H = true := by rw [hG]; rfl
  obtain ⟨r, h⟩ : ∃ r, impl_Colouring_hasColour p0 p1 = r := ⟨_, rfl⟩
  rw [h]
  unfold impl_Colouring_hasColour at h
  refine ACode_seq (ACode_region ?_)
  refine AOps_q 4 _ rfl rfl rfl (QOp_assign _ _ rfl rfl) ?_
  refine AOps_nil ?_
  refine ACode_seq (ACode_region ?_)
  refine AOps_q 5 _ rfl rfl rfl (QOp_move _ _ rfl rfl) ?_
  refine AOps_q 6 _ rfl rfl rfl (QOp_move _ _ rfl rfl) ?_
  refine AOps_q 7 _ rfl rfl rfl (QOp_nilCheck_pv _ _ _ rfl rfl) ?_
  refine AOps_q 8 _ rfl rfl rfl (QOp_fieldAddr_pv _ _ _ _ _ 1 _ _ rfl Try.underlying26 rfl _ Try.sizeOf2 rfl rfl) ?_
  refine AOps_q 9 _ rfl rfl rfl (QOp_load_pv _ _ _ _ _ rfl Try.isAgg2 rfl rfl) ?_
  refine AOps_q 10 _ rfl rfl rfl (QOp_sub _ _ _ _ _ _ _ rfl rfl rfl) ?_
  refine AOps_call [] 11 _ _ _ _ _ _ _ _ _ _ rfl rfl rfl rfl rfl rfl rfl Try.call62 rfl (nodupB_sound _ rfl) rfl rfl rfl (impl_in_ac p1 0 (w64 (p0.k - 1))) ?_
  rintro _ _ ⟨rfl, rfl⟩
  refine ⟨(fun _ h => nomatch h), (allc (trivial) (fun _ h => nomatch h)), AOps_as 11 (v' := bV (impl_in p1 0 (w64 (p0.k - 1)))) (H' := []) rfl rfl ?_⟩
  refine AOps_q 4 _ rfl rfl rfl (QOp_assign _ _ rfl rfl) ?_
  refine AOps_nil ?_
  refine ACode_ret ?_
  cases h
  exact ⟨_, _, fun r a w h => ⟨r, h⟩, _, _, [], _, (.cons (ResV_tmp _ _ rfl) .nil), rfl, rfl, rfl, rfl, rfl⟩

-- (*loop.example/g01362/impl.Colouring).colourCode$1
def impl_Colouring_colourCode_c1 (p0 : Col) (p1 : Int) (p2 : Bool) : Bool :=
  letO (if (impl_Colouring_hasColour p0 p1) then p2 else false) fun (s3 : Bool) => s3
set_option maxRecDepth 100000 in
theorem impl_Colouring_colourCode_c1_ac (p0 : Col) (p1 : Int) (p2 : Bool) : AC Try.prog 108 [.d (.pv ([.pv (colD p0) 0]) 0), .d (.pv ([iD p1]) 0), .d (.pv ([.s (.bool p2)]) 0)] [] (fun res H' => res = [bV (impl_Colouring_colourCode_c1 p0 p1 p2)] ∧ H' = []) := by
  refine AC_of_body true Try.func108 rfl Try.ntmps108 (rvs := [.tmp 3]) rfl rfl (fun G hG => ?_)
  have hm : G.H.length = 0 := by rw [hG]; rfl
  have hz : zeroG G.H = true := by rw [hG]; rfl
  obtain ⟨r, h⟩ : ∃ r, impl_Colouring_colourCode_c1 p0 p1 p2 = r := ⟨_, rfl⟩
  rw [h]
  unfold impl_Colouring_colourCode_c1 at h
  refine ACode_seq (ACode_region ?_)
  refine AOps_q 3 _ rfl rfl rfl (QOp_assign _ _ rfl rfl) ?_
  refine AOps_nil ?_
  obtain ⟨s3, hss3, hks3⟩ := letS h
  clear h
  refine ACode_seqJ (fun E' H' => Weak 10 G E' H' [(3, bV s3)] []) ?_ ?_
  · have h := hss3
    clear hss3
    refine (ACode_region ?_)
    refine AOps_q 4 _ rfl rfl rfl (QOp_load_pv _ _ _ _ _ rfl Try.isAgg99 rfl rfl) ?_
    refine AOps_q 5 _ rfl rfl rfl (QOp_load_pv _ _ _ _ _ rfl Try.isAgg2 rfl rfl) ?_
    refine AOps_call [] 6 _ _ _ _ _ _ _ _ _ _ rfl rfl rfl rfl rfl rfl rfl Try.call77 rfl (nodupB_sound _ rfl) rfl rfl rfl (impl_Colouring_hasColour_ac p0 p1) ?_
    rintro _ _ ⟨rfl, rfl⟩
    refine ⟨(fun _ h => nomatch h), (allc (trivial) (fun _ h => nomatch h)), AOps_as 6 (v' := bV (impl_Colouring_hasColour p0 p1)) (H' := []) rfl rfl ?_⟩
    refine AOps_q 7 _ rfl rfl rfl (QOp_move _ _ rfl rfl) ?_
    refine AOps_case 7 _ rfl (fun hb2 => ?_) (fun hb2 => ?_)
    · have h := iteT hb2 h
      refine AOps_q 8 _ rfl rfl rfl (QOp_load_pv _ _ _ _ _ rfl Try.isAgg4 rfl rfl) ?_
      refine AOps_q 9 _ rfl rfl rfl (QOp_pick_t _ _ _ _ rfl rfl rfl) ?_
      refine AOps_q 3 _ rfl rfl rfl (QOp_assign _ _ rfl rfl) ?_
      refine AOps_nil ?_
      cases h
      exact Weak_keep 0 hm [3] [] _ _ rfl rfl rfl
    · have h := iteF hb2 h
      refine AOps_skip 8 rfl rfl rfl ?_
      refine AOps_q 9 _ rfl rfl rfl (QOp_pick_f _ _ _ _ rfl rfl rfl) ?_
      refine AOps_q 3 _ rfl rfl rfl (QOp_assign _ _ rfl rfl) ?_
      refine AOps_nil ?_
      cases h
      exact Weak_keep 0 hm [3] [] _ _ rfl rfl rfl
  intro E' H' hw
  refine ACode_weak hw ?_
  have h := hks3
  refine ACode_ret ?_
  cases h
  exact ⟨_, _, fun r a w h => ⟨r, h⟩, _, _, [], _, (.cons (ResV_tmp _ _ rfl) .nil), rfl, rfl, rfl, rfl, rfl⟩

-- (*loop.example/g01362/impl.Colouring).colourCode
def impl_Colouring_colourCode (k : Nat) (p0 : Col) (p1 : Int) (p2 : Bool) : Option (Int) :=
  (impl_Colouring_code k p0 (some (impl_Colouring_colourCode_c1 p0 p1 p2))).bind fun r1 => some r1
set_option maxRecDepth 100000 in
theorem impl_Colouring_colourCode_ac (k : Nat) (p0 : Col) (p1 : Int) (p2 : Bool) (r : Int) (h : impl_Colouring_colourCode k p0 p1 p2 = some r) : AC Try.prog 48 [.d (.pv (colD p0) 0), iV p1, bV p2] [] (fun res H' => res = [iV r] ∧ H' = []) := by
  refine AC_of_body true Try.func48 rfl Try.ntmps48 (rvs := [.tmp 6]) rfl rfl (fun G hG => ?_)
  have hm : G.H.length = 0 := by rw [hG]; rfl
  have hz : zeroG G.H = true := by rw [hG]; rfl
  unfold impl_Colouring_colourCode at h
  refine ACode_seq (ACode_region ?_)
  refine AOps_boxI 3 _ _ (.pv (colD p0) 0) _ rfl (fun c hc => by cases hc with | head => rfl | tail _ h => cases h) rfl rfl rfl rfl rfl ?_
  refine AOps_boxI 4 _ _ (iD p1) _ rfl (fun c hc => by cases hc with | head => rfl | tail _ h => cases h) rfl rfl rfl rfl rfl ?_
  refine AOps_boxI 5 _ _ (.s (.bool p2)) _ rfl (fun c hc => by cases hc with | head => rfl | tail _ h => cases h) rfl rfl rfl rfl rfl ?_
  refine AOps_q 6 _ rfl rfl rfl (QOp_assign _ _ rfl rfl) ?_
  refine AOps_nil ?_
  refine ACode_seq (ACode_region ?_)
  refine AOps_q 7 _ rfl rfl rfl (QOp_load_pv _ _ _ _ _ rfl Try.isAgg99 rfl rfl) ?_
  refine AOps_q 8 _ rfl rfl rfl (QOp_makeFuncD _ _ _ _ rfl rfl rfl) ?_
  obtain ⟨r1, hr1, h⟩ := bindO h
  refine AOps_call [] 9 _ _ _ _ _ _ _ _ _ _ rfl rfl rfl rfl rfl rfl rfl Try.call68 rfl (nodupB_sound _ rfl) rfl rfl rfl (impl_Colouring_code_ac k p0 (some (impl_Colouring_colourCode_c1 p0 p1 p2)) 108 ([.pv ([.pv (colD p0) 0]) 0, .pv ([iD p1]) 0, .pv ([.s (.bool p2)]) 0]) Try.call108 (fun r h => by cases h; exact impl_Colouring_colourCode_c1_ac p0 p1 p2) _ hr1) ?_
  rintro _ _ ⟨rfl, rfl⟩
  refine ⟨(fun _ h => nomatch h), (allc (trivial) (fun _ h => nomatch h)), AOps_as 9 (v' := iV r1) (H' := []) rfl rfl ?_⟩
  refine AOps_q 6 _ rfl rfl rfl (QOp_assign _ _ rfl rfl) ?_
  refine AOps_nil ?_
  refine ACode_ret ?_
  cases h
  exact ⟨_, _, fun r a w h => ⟨r, h⟩, _, _, [], _, (.cons (ResV_tmp _ _ rfl) .nil), rfl, rfl, rfl, rfl, rfl⟩

-- loop.example/g01362/impl.number
def impl_number (p0 : Int) (p1 : Int) : Int :=
  w64 ((w64 ((w64 ((if p0 < p1 then p1 else p0) * (w64 ((if p0 < p1 then p1 else p0) - 1)))).tdiv 2)) + (if p1 < p0 then p1 else p0))
set_option maxRecDepth 100000 in
theorem impl_number_ac (p0 : Int) (p1 : Int) : AC Try.prog 109 [iV p0, iV p1] [] (fun res H' => res = [iV (impl_number p0 p1)] ∧ H' = []) := by
  refine AC_of_body true Try.func109 rfl Try.ntmps109 (rvs := [.tmp 4]) rfl rfl (fun G hG => ?_)
  have hm : G.H.length = 0 := by rw [hG]; rfl
  have hz : zeroG G.H = true := by rw [hG]; rfl
  obtain ⟨r, h⟩ : ∃ r, impl_number p0 p1 = r := ⟨_, rfl⟩
  rw [h]
  unfold impl_number at h
  refine ACode_seq (ACode_region ?_)
  refine AOps_q 4 _ rfl rfl rfl (QOp_assign _ _ rfl rfl) ?_
  refine AOps_nil ?_
  refine ACode_seq (ACode_region ?_)
  refine AOps_q 5 _ rfl rfl rfl (QOp_move _ _ rfl rfl) ?_
  refine AOps_q 6 _ rfl rfl rfl (QOp_move _ _ rfl rfl) ?_
  refine AOps_q 7 _ rfl rfl rfl (QOp_min _ _ _ _ _ _ rfl rfl rfl rfl rfl) ?_
  refine AOps_q 8 _ rfl rfl rfl (QOp_move _ _ rfl rfl) ?_
  refine AOps_q 9 _ rfl rfl rfl (QOp_move _ _ rfl rfl) ?_
  refine AOps_q 10 _ rfl rfl rfl (QOp_max _ _ _ _ _ _ rfl rfl rfl rfl rfl) ?_
  refine AOps_q 0 _ rfl rfl rfl (QOp_assign _ _ rfl rfl) ?_
  refine AOps_q 1 _ rfl rfl rfl (QOp_assign _ _ rfl rfl) ?_
  refine AOps_nil ?_
  refine ACode_seq (ACode_region ?_)
  refine AOps_q 11 _ rfl rfl rfl (QOp_move _ _ rfl rfl) ?_
  refine AOps_q 12 _ rfl rfl rfl (QOp_move _ _ rfl rfl) ?_
  refine AOps_q 13 _ rfl rfl rfl (QOp_sub _ _ _ _ _ _ _ rfl rfl rfl) ?_
  refine AOps_q 14 _ rfl rfl rfl (QOp_mul _ _ _ _ _ _ _ rfl rfl rfl) ?_
  refine AOps_q 15 _ rfl rfl rfl (QOp_quo _ _ _ _ _ _ _ (by decide) rfl rfl rfl) ?_
  refine AOps_q 16 _ rfl rfl rfl (QOp_move _ _ rfl rfl) ?_
  refine AOps_q 17 _ rfl rfl rfl (QOp_add _ _ _ _ _ _ _ rfl rfl rfl) ?_
  refine AOps_q 4 _ rfl rfl rfl (QOp_assign _ _ rfl rfl) ?_
  refine AOps_nil ?_
  refine ACode_ret ?_
  cases h
  exact ⟨_, _, fun r a w h => ⟨r, h⟩, _, _, [], _, (.cons (ResV_tmp _ _ rfl) .nil), rfl, rfl, rfl, rfl, rfl⟩

-- (*loop.example/g01362/impl.Colouring).at
def impl_Colouring_at (p0 : Col) (p1 : Int) (p2 : Int) : Option (Int) :=
  (if 0 ≤ (impl_number p1 p2) ∧ (impl_number p1 p2) < 136 then some ((p0.get ((impl_number p1 p2).toNat)).toNat : Int) else none)
set_option maxRecDepth 100000 in
theorem impl_Colouring_at_ac (p0 : Col) (p1 : Int) (p2 : Int) (r : Int) (h : impl_Colouring_at p0 p1 p2 = some r) : AC Try.prog 51 [.d (.pv (colD p0) 0), iV p1, iV p2] [] (fun res H' => res = [iV r] ∧ H' = []) := by
  refine AC_of_body true Try.func51 rfl Try.ntmps51 (rvs := [.tmp 6]) rfl rfl (fun G hG => ?_)
  have hm : G.H.length = 0 := by rw [hG]; rfl
  have hz : zeroG G.H = true := by rw [hG]; rfl
  unfold impl_Colouring_at at h
  refine ACode_seq (ACode_region ?_)
  refine AOps_q 6 _ rfl rfl rfl (QOp_assign _ _ rfl rfl) ?_
  refine AOps_nil ?_
  refine ACode_seq (ACode_quiet mixed (by kernel_rfl) ?_)
  refine AQ_q 7 _ rfl rfl rfl (QOp_move _ _ rfl rfl) ?_
  refine AQ_q 8 _ rfl rfl rfl (QOp_move _ _ rfl rfl) ?_
  refine AQ_q 9 _ rfl rfl rfl (QOp_move _ _ rfl rfl) ?_
  refine AQ_call 10 _ _ _ _ _ _ _ _ _ rfl rfl rfl rfl rfl rfl rfl Try.call109 rfl rfl rfl (impl_number_ac p1 p2) ?_
  refine AQ_q 11 _ rfl rfl rfl (QOp_nilCheck_pv _ _ _ rfl rfl) ?_
  refine AQ_q 12 _ rfl rfl rfl (QOp_fieldAddr_pv _ _ _ _ _ 2 _ _ rfl Try.underlying26 rfl _ Try.sizeOf24 rfl rfl) ?_
  obtain ⟨hc2, h⟩ := guardO h
  refine AQ_q 13 _ rfl rfl rfl (QOp_indexAddrA_pv _ _ _ _ _ _ _ _ _ rfl Try.underlying24 Try.sizeOf5 hc2.1 hc2.2 rfl rfl) ?_
  refine AQ_q 14 _ rfl rfl rfl (QOp_load_pv _ _ _ _ _ rfl Try.isAgg5 rfl (colD_get _ _ (by omega))) ?_
  refine AQ_q 15 _ rfl rfl rfl (QOp_fromByte _ _ _ _ _ rfl rfl Try.underlying2 wrap_i64_byte rfl) ?_
  refine AQ_q 6 _ rfl rfl rfl (QOp_assign _ _ rfl rfl) ?_
  refine AQ_nil ?_
  refine ACode_ret ?_
  cases h
  exact ⟨_, _, fun r a w h => ⟨r, h⟩, _, _, [], _, (.cons (ResV_tmp _ _ rfl) .nil), rfl, rfl, rfl, rfl, rfl⟩

-- (*loop.example/g01362/impl.Colouring).ups
def impl_Colouring_ups_l1 (p0 : Col) (p1 : Int) (x3 : Int) : Nat → Int → (List Int) → Option (List Int)
  | 0, _, _ => none
  | k1 + 1, x7, x8 => (if decide (x7 < x3) then ((impl_Colouring_at p0 x7 x3).bind fun r10 => (if decide (r10 = p1) then (if 0 ≤ x3 ∧ x3 < (x8.length : Int) then (if 0 ≤ x7 ∧ x7 < (x8.length : Int) then (if 0 ≤ x3 ∧ x3 < (x8.length : Int) then some (x8.set x3.toNat (if (x8.getD x3.toNat 0) < w64 ((x8.getD x7.toNat 0) + 1) then w64 ((x8.getD x7.toNat 0) + 1) else (x8.getD x3.toNat 0))) else none) else none) else none) else some x8) : Option (List Int)).bind fun s15 => impl_Colouring_ups_l1 p0 p1 x3 k1 (w64 (x7 + 1)) s15 else some x8)
def impl_Colouring_ups_l0 (k : Nat) (p0 : Col) (p1 : Int) : Nat → Int → (List Int) → Option (List Int)
  | 0, _, _ => none
  | k0 + 1, x3, x4 => (if decide (x3 < p0.p) then ((if 0 ≤ x3 ∧ x3 < (x4.length : Int) then impl_Colouring_ups_l1 p0 p1 x3 k 0 (x4.set x3.toNat 1) else none) : Option (List Int)).bind fun s16 => impl_Colouring_ups_l0 k p0 p1 k0 (w64 (x3 + 1)) s16 else some x4)
def impl_Colouring_ups_l3 (p0 : Col) (p1 : Int) (x18 : Int) : Nat → Int → (List Int) → Option (List Int)
  | 0, _, _ => none
  | k3 + 1, x22, x23 => (if decide (x22 < p0.p) then ((impl_Colouring_at p0 x18 x22).bind fun r25 => (if decide (r25 = p1) then (if 0 ≤ x18 ∧ x18 < (x23.length : Int) then (if 0 ≤ x22 ∧ x22 < (x23.length : Int) then (if 0 ≤ x18 ∧ x18 < (x23.length : Int) then some (x23.set x18.toNat (if (x23.getD x18.toNat 0) < w64 ((x23.getD x22.toNat 0) + 1) then w64 ((x23.getD x22.toNat 0) + 1) else (x23.getD x18.toNat 0))) else none) else none) else none) else some x23) : Option (List Int)).bind fun s30 => impl_Colouring_ups_l3 p0 p1 x18 k3 (w64 (x22 + 1)) s30 else some x23)
def impl_Colouring_ups_l2 (k : Nat) (p0 : Col) (p1 : Int) : Nat → Int → (List Int) → Option (List Int)
  | 0, _, _ => none
  | k2 + 1, x18, x19 => (if decide (0 ≤ x18) then ((if 0 ≤ x18 ∧ x18 < (x19.length : Int) then impl_Colouring_ups_l3 p0 p1 x18 k (w64 (x18 + 1)) (x19.set x18.toNat 1) else none) : Option (List Int)).bind fun s31 => impl_Colouring_ups_l2 k p0 p1 k2 (w64 (x18 - 1)) s31 else some x19)
def impl_Colouring_ups (k : Nat) (p0 : Col) (p1 : Int) : Option (List Int × List Int) :=
  (if 0 ≤ p0.p ∧ p0.p ≤ p0.p ∧ p0.p ≤ 1099511627776 then (if 0 ≤ p0.p ∧ p0.p ≤ p0.p ∧ p0.p ≤ 1099511627776 then (impl_Colouring_ups_l0 k p0 p1 k 0 (List.replicate p0.p.toNat (0 : Int)) : Option (List Int)).bind fun s17 => (impl_Colouring_ups_l2 k p0 p1 k (w64 (p0.p - 1)) (List.replicate p0.p.toNat (0 : Int)) : Option (List Int)).bind fun s32 => some (s17, s32) else none) else none)
set_option maxRecDepth 100000 in
theorem impl_Colouring_ups_ac (k : Nat) (p0 : Col) (p1 : Int) (r : List Int × List Int) (h : impl_Colouring_ups k p0 p1 = some r) : AC Try.prog 49 [.d (.pv (colD p0) 0), iV p1] [] (fun res H' => res = [.vec 0 0, .vec 1 0] ∧ H' = [.vec 0 (intsD r.1), .vec 0 (intsD r.2)]) := by
  refine AC_of_body true Try.func49 rfl Try.ntmps49 (rvs := [.tmp 4, .tmp 5]) rfl rfl (fun G hG => ?_)
  have hm : G.H.length = 0 := by rw [hG]; rfl
  have hz : zeroG G.H = true := by rw [hG]; rfl
  unfold impl_Colouring_ups at h
  refine ACode_seq (ACode_region ?_)
  refine AOps_q 4 _ rfl rfl rfl (QOp_assign _ _ rfl rfl) ?_
  refine AOps_q 5 _ rfl rfl rfl (QOp_assign _ _ rfl rfl) ?_
  refine AOps_nil ?_
  obtain ⟨hc1, h⟩ := guardO h
  obtain ⟨hc2, h⟩ := guardO h
  refine ACode_seqJ (fun E' H' => Weak 100 G E' H' [(0, .d (.pv (colD p0) 0)), (1, iV p1), (6, .vec 0 0), (7, .vec 1 0)] [.vec 0 (intsD (List.replicate p0.p.toNat (0 : Int))), .vec 0 (intsD (List.replicate p0.p.toNat (0 : Int)))]) ?_ ?_
  · refine ACode_any mixed ?_
    refine AAny_q 0 12 _ rfl (by kernel_rfl) rfl rfl rfl (QOp_move _ _ rfl rfl) ?_
    refine AAny_q 1 13 _ rfl (by kernel_rfl) rfl rfl rfl (QOp_nilCheck_pv _ _ _ rfl rfl) ?_
    refine AAny_q 2 14 _ rfl (by kernel_rfl) rfl rfl rfl (QOp_fieldAddr_pv _ _ _ _ _ 0 _ _ rfl Try.underlying26 rfl _ Try.sizeOf2 rfl rfl) ?_
    refine AAny_q 3 15 _ rfl (by kernel_rfl) rfl rfl rfl (QOp_load_pv _ _ _ _ _ rfl Try.isAgg2 rfl rfl) ?_
    refine AAny_q 5 17 _ rfl (by kernel_rfl) rfl rfl rfl (QOp_move _ _ rfl rfl) ?_
    refine AAny_q 6 18 _ rfl (by kernel_rfl) rfl rfl rfl (QOp_nilCheck_pv _ _ _ rfl rfl) ?_
    refine AAny_q 7 19 _ rfl (by kernel_rfl) rfl rfl rfl (QOp_fieldAddr_pv _ _ _ _ _ 0 _ _ rfl Try.underlying26 rfl _ Try.sizeOf2 rfl rfl) ?_
    refine AAny_q 8 20 _ rfl (by kernel_rfl) rfl rfl rfl (QOp_load_pv _ _ _ _ _ rfl Try.isAgg2 rfl rfl) ?_
    refine AAny_all [4, 9] (by kernel_rfl) rfl (allc ?_ (allc ?_ (fun _ h => nomatch h)))
    · refine AStep_of 4 rfl rfl (Bl_makeSlice _ _ _ _ _ _ p0.p p0.p _ (.int .i64 0) rfl Try.underlying29 Try.type2 rfl rfl rfl (by decide) rfl rfl hc1.1 hc1.2.1 hc1.2.2) ?_
      refine AOps_makeSliceG intsD iD 0 (intsD_rep · _) 16 _ _ _ _ _ _ p0.p p0.p _ (.int .i64 0) rfl rfl rfl rfl rfl rfl Try.underlying29 Try.type2 rfl rfl (by decide) rfl rfl hc1.1 hc1.2.1 hc1.2.2 ?_
      refine AOps_nil ?_
      refine AAny_q 10 6 _ rfl (by kernel_rfl) rfl rfl rfl (QOp_assign _ _ rfl rfl) ?_
      refine AAny_all [9] (by kernel_rfl) rfl (allc ?_ (fun _ h => nomatch h))
      · refine AStep_of 9 rfl rfl (Bl_makeSlice _ _ _ _ _ _ p0.p p0.p _ (.int .i64 0) rfl Try.underlying29 Try.type2 rfl rfl rfl (by decide) rfl rfl hc2.1 hc2.2.1 hc2.2.2) ?_
        refine AOps_makeSliceG intsD iD 0 (intsD_rep · _) 21 _ _ _ _ _ _ p0.p p0.p _ (.int .i64 0) rfl rfl rfl rfl rfl rfl Try.underlying29 Try.type2 rfl rfl (by decide) rfl rfl hc2.1 hc2.2.1 hc2.2.2 ?_
        refine AOps_nil ?_
        refine AAny_q 11 7 _ rfl (by kernel_rfl) rfl rfl rfl (QOp_assign _ _ rfl rfl) ?_
        refine AAny_done (by kernel_rfl) ?_
        exact Weak_keep 0 hm [0, 1, 6, 7] [0, 1] _ _ rfl rfl rfl
    · refine AStep_of 9 rfl rfl (Bl_makeSlice _ _ _ _ _ _ p0.p p0.p _ (.int .i64 0) rfl Try.underlying29 Try.type2 rfl rfl rfl (by decide) rfl rfl hc2.1 hc2.2.1 hc2.2.2) ?_
      refine AOps_makeSliceG intsD iD 0 (intsD_rep · _) 21 _ _ _ _ _ _ p0.p p0.p _ (.int .i64 0) rfl rfl rfl rfl rfl rfl Try.underlying29 Try.type2 rfl rfl (by decide) rfl rfl hc2.1 hc2.2.1 hc2.2.2 ?_
      refine AOps_nil ?_
      refine AAny_all [4] (by kernel_rfl) rfl (allc ?_ (fun _ h => nomatch h))
      · refine AStep_of 4 rfl rfl (Bl_makeSlice _ _ _ _ _ _ p0.p p0.p _ (.int .i64 0) rfl Try.underlying29 Try.type2 rfl rfl rfl (by decide) rfl rfl hc1.1 hc1.2.1 hc1.2.2) ?_
        refine AOps_makeSliceG intsD iD 0 (intsD_rep · _) 16 _ _ _ _ _ _ p0.p p0.p _ (.int .i64 0) rfl rfl rfl rfl rfl rfl Try.underlying29 Try.type2 rfl rfl (by decide) rfl rfl hc1.1 hc1.2.1 hc1.2.2 ?_
        refine AOps_nil ?_
        refine AAny_q 10 6 _ rfl (by kernel_rfl) rfl rfl rfl (QOp_assign _ _ rfl rfl) ?_
        refine AAny_q 11 7 _ rfl (by kernel_rfl) rfl rfl rfl (QOp_assign _ _ rfl rfl) ?_
        refine AAny_done (by kernel_rfl) ?_
        exact Weak_keep 0 hm [0, 1, 6, 7] [1, 0] _ _ rfl rfl rfl
  intro E' H' hw
  refine ACode_weak hw ?_
  obtain ⟨s17, hss17, hks17⟩ := bindO h
  clear h
  refine ACode_seqJ (fun E' H' => Weak 100 G E' H' [(0, .d (.pv (colD p0) 0)), (1, iV p1), (6, .vec 0 0), (7, .vec 1 0)] [.vec 0 (intsD s17), .vec 0 (intsD (List.replicate p0.p.toNat (0 : Int)))]) ?_ ?_
  · have h := hss17
    clear hss17
    refine ACode_seq (ACode_region ?_)
    refine AOps_q 22 _ rfl rfl rfl (QOp_move _ _ rfl rfl) ?_
    refine AOps_q 23 _ rfl rfl rfl (QOp_nilCheck_pv _ _ _ rfl rfl) ?_
    refine AOps_q 24 _ rfl rfl rfl (QOp_fieldAddr_pv _ _ _ _ _ 0 _ _ rfl Try.underlying26 rfl _ Try.sizeOf2 rfl rfl) ?_
    refine AOps_q 25 _ rfl rfl rfl (QOp_load_pv _ _ _ _ _ rfl Try.isAgg2 rfl rfl) ?_
    refine AOps_q 26 _ rfl rfl rfl (QOp_move _ _ rfl rfl) ?_
    refine AOps_nil ?_
    refine ACode_block ?_
    refine ACode_loopW (fun k0 E H => ∃ (x3 : Int) (x4 : List Int), E = [(0, .d (.pv (colD p0) 0)), (1, iV p1), (6, .vec 0 0), (7, .vec 1 0), (25, iV p0.p), (26, iV x3)] ∧ H = [.vec 0 (intsD x4), .vec 0 (intsD (List.replicate p0.p.toNat (0 : Int)))] ∧ impl_Colouring_ups_l0 k p0 p1 k0 x3 x4 = some s17) k _ _ (Weak_keep 0 hm [0, 1, 6, 7, 25, 26] [0, 1] _ _ rfl rfl rfl) ⟨_, _, rfl, rfl, h⟩ ?_
    clear h
    rintro k0 E H ⟨x3, x4, rfl, rfl, h⟩
    cases k0 with
    | zero => cases (show (none : Option (List Int)) = some _ from h)
    | succ k0 =>
      rw [impl_Colouring_ups_l0] at h
      refine ACode_seq (ACode_region ?_)
      refine AOps_q 27 _ rfl rfl rfl (QOp_lss _ _ _ _ _ _ _ rfl rfl rfl) ?_
      refine AOps_nil ?_
      refine ACode_seq ?_
      refine ACode_cond _ rfl (fun hb5 => ?_) (fun hb5 => ?_)
      · have h := iteT hb5 h
        refine ACode_skip ?_
        obtain ⟨s16, hss16, hks16⟩ := bindO h
        clear h
        refine ACode_seqJ (fun E' H' => Weak 100 G E' H' [(0, .d (.pv (colD p0) 0)), (1, iV p1), (6, .vec 0 0), (7, .vec 1 0), (25, iV p0.p), (26, iV x3)] [.vec 0 (intsD s16), .vec 0 (intsD (List.replicate p0.p.toNat (0 : Int)))]) ?_ ?_
        · have h := hss16
          clear hss16
          refine ACode_block ?_
          refine ACode_seq (ACode_region ?_)
          refine AOps_q 28 _ rfl rfl rfl (QOp_move _ _ rfl rfl) ?_
          refine AOps_q 8 _ rfl rfl rfl (QOp_assign _ _ rfl rfl) ?_
          refine AOps_nil ?_
          refine ACode_seq (ACode_region ?_)
          refine AOps_q 29 _ rfl rfl rfl (QOp_move _ _ rfl rfl) ?_
          refine AOps_q 30 _ rfl rfl rfl (QOp_move _ _ rfl rfl) ?_
          obtain ⟨hc6, h⟩ := guardO h
          refine AOps_q 31 _ rfl rfl rfl (QOp_indexAddr_vec _ _ _ _ _ _ _ _ _ rfl Try.underlying29 Try.sizeOf2 hc6.1 (by rw [intsD_length]; exact hc6.2) rfl rfl rfl) ?_
          refine AOps_store_eptr _ _ _ _ _ _ (intsD x4) _ rfl rfl rfl rfl rfl rfl rfl Try.sizeOf2 (by rw [intsD_length]; omega) ?_
          rw [intsD_set]
          refine AOps_nil ?_
          refine ACode_seq (ACode_region ?_)
          refine AOps_q 32 _ rfl rfl rfl (QOp_move _ _ rfl rfl) ?_
          refine AOps_q 33 _ rfl rfl rfl (QOp_move _ _ rfl rfl) ?_
          refine AOps_nil ?_
          refine ACode_block ?_
          refine ACode_loopW (fun k1 E H => ∃ (x7 : Int) (x8 : List Int), E = [(0, .d (.pv (colD p0) 0)), (1, iV p1), (6, .vec 0 0), (7, .vec 1 0), (8, iV x3), (25, iV p0.p), (26, iV x3), (32, iV x3), (33, iV x7)] ∧ H = [.vec 0 (intsD x8), .vec 0 (intsD (List.replicate p0.p.toNat (0 : Int)))] ∧ impl_Colouring_ups_l1 p0 p1 x3 k1 x7 x8 = some s16) k _ _ (Weak_keep 0 hm [0, 1, 6, 7, 8, 25, 26, 32, 33] [0, 1] _ _ rfl rfl rfl) ⟨_, _, rfl, rfl, h⟩ ?_
          clear h
          rintro k1 E H ⟨x7, x8, rfl, rfl, h⟩
          cases k1 with
          | zero => cases (show (none : Option (List Int)) = some _ from h)
          | succ k1 =>
            rw [impl_Colouring_ups_l1] at h
            refine ACode_seq (ACode_region ?_)
            refine AOps_q 34 _ rfl rfl rfl (QOp_lss _ _ _ _ _ _ _ rfl rfl rfl) ?_
            refine AOps_nil ?_
            refine ACode_seq ?_
            refine ACode_cond _ rfl (fun hb9 => ?_) (fun hb9 => ?_)
            · have h := iteT hb9 h
              refine ACode_skip ?_
              obtain ⟨s15, hss15, hks15⟩ := bindO h
              clear h
              refine ACode_seqJ (fun E' H' => Weak 100 G E' H' [(0, .d (.pv (colD p0) 0)), (1, iV p1), (6, .vec 0 0), (7, .vec 1 0), (8, iV x3), (25, iV p0.p), (26, iV x3), (32, iV x3), (33, iV x7)] [.vec 0 (intsD s15), .vec 0 (intsD (List.replicate p0.p.toNat (0 : Int)))]) ?_ ?_
              · have h := hss15
                clear hss15
                refine ACode_block ?_
                refine ACode_seq (ACode_region ?_)
                refine AOps_q 35 _ rfl rfl rfl (QOp_move _ _ rfl rfl) ?_
                refine AOps_q 9 _ rfl rfl rfl (QOp_assign _ _ rfl rfl) ?_
                refine AOps_nil ?_
                refine ACode_seq (ACode_region ?_)
                refine AOps_q 36 _ rfl rfl rfl (QOp_move _ _ rfl rfl) ?_
                refine AOps_q 37 _ rfl rfl rfl (QOp_move _ _ rfl rfl) ?_
                refine AOps_q 38 _ rfl rfl rfl (QOp_move _ _ rfl rfl) ?_
                obtain ⟨r10, hr10, h⟩ := bindO h
                refine AOps_call [] 39 _ _ _ _ _ _ _ _ _ _ rfl rfl rfl rfl rfl rfl rfl Try.call51 rfl (nodupB_sound _ rfl) rfl rfl rfl (impl_Colouring_at_ac p0 x7 x3 _ hr10) ?_
                rintro _ _ ⟨rfl, rfl⟩
                refine ⟨(fun _ h => nomatch h), (allc (trivial) (fun _ h => nomatch h)), AOps_as 39 (v' := iV r10) (H' := [.vec 0 (intsD x8), .vec 0 (intsD (List.replicate p0.p.toNat (0 : Int)))]) rfl rfl ?_⟩
                refine AOps_q 40 _ rfl rfl rfl (QOp_move _ _ rfl rfl) ?_
                refine AOps_q 41 _ rfl rfl rfl (QOp_eql _ _ _ _ _ _ _ rfl rfl rfl) ?_
                refine AOps_nil ?_
                refine ACode_cond _ rfl (fun hb11 => ?_) (fun hb11 => ?_)
                · have h := iteT hb11 h
                  refine (ACode_last (l := [_, _, _, _, _, _, _, _, _, _, _, _, _]) mixed (by kernel_rfl) (by kernel_rfl) ?_)
                  refine AQ_q 42 _ rfl rfl rfl (QOp_move _ _ rfl rfl) ?_
                  refine AQ_q 43 _ rfl rfl rfl (QOp_move _ _ rfl rfl) ?_
                  refine AQ_q 44 _ rfl rfl rfl (QOp_move _ _ rfl rfl) ?_
                  refine AQ_q 45 _ rfl rfl rfl (QOp_move _ _ rfl rfl) ?_
                  obtain ⟨hc12, h⟩ := guardO h
                  refine AQ_q 46 _ rfl rfl rfl (QOp_indexAddr_vec _ _ _ _ _ _ _ _ _ rfl Try.underlying29 Try.sizeOf2 hc12.1 (by rw [intsD_length]; exact hc12.2) rfl rfl rfl) ?_
                  refine AQ_q 47 _ rfl rfl rfl (QOp_load_eptr _ _ _ _ _ _ _ rfl Try.isAgg2 rfl rfl (intsD_get _ _ 0 (by omega))) ?_
                  refine AQ_q 48 _ rfl rfl rfl (QOp_move _ _ rfl rfl) ?_
                  refine AQ_q 49 _ rfl rfl rfl (QOp_move _ _ rfl rfl) ?_
                  obtain ⟨hc13, h⟩ := guardO h
                  refine AQ_q 50 _ rfl rfl rfl (QOp_indexAddr_vec _ _ _ _ _ _ _ _ _ rfl Try.underlying29 Try.sizeOf2 hc13.1 (by rw [intsD_length]; exact hc13.2) rfl rfl rfl) ?_
                  refine AQ_q 51 _ rfl rfl rfl (QOp_load_eptr _ _ _ _ _ _ _ rfl Try.isAgg2 rfl rfl (intsD_get _ _ 0 (by omega))) ?_
                  refine AQ_q 52 _ rfl rfl rfl (QOp_add _ _ _ _ _ _ _ rfl rfl rfl) ?_
                  refine AQ_q 53 _ rfl rfl rfl (QOp_max _ _ _ _ _ _ rfl rfl rfl rfl rfl) ?_
                  obtain ⟨hc14, h⟩ := guardO h
                  refine AQ_q 54 _ rfl rfl rfl (QOp_indexAddr_vec _ _ _ _ _ _ _ _ _ rfl Try.underlying29 Try.sizeOf2 hc14.1 (by rw [intsD_length]; exact hc14.2) rfl rfl rfl) ?_
                  refine AQ_nil ?_
                  refine AOps_store_eptr _ _ _ _ _ _ (intsD x8) _ rfl rfl rfl rfl rfl rfl rfl Try.sizeOf2 (by rw [intsD_length]; omega) ?_
                  rw [intsD_set]
                  refine AOps_nil ?_
                  cases h
                  exact Weak_keep 0 hm [0, 1, 6, 7, 8, 25, 26, 32, 33] [0, 1] _ _ rfl rfl rfl
                · have h := iteF hb11 h
                  refine ACode_skip ?_
                  cases h
                  exact Weak_keep 0 hm [0, 1, 6, 7, 8, 25, 26, 32, 33] [0, 1] _ _ rfl rfl rfl
              intro E' H' hw
              refine ACode_weak hw ?_
              have h := hks15
              refine (ACode_region ?_)
              refine AOps_q 55 _ rfl rfl rfl (QOp_add _ _ _ _ _ _ _ rfl rfl rfl) ?_
              refine AOps_q 33 _ rfl rfl rfl (QOp_move _ _ rfl rfl) ?_
              refine AOps_nil ?_
              exact ⟨k1, _, _, Nat.lt_succ_self _, Weak_keep 0 hm [0, 1, 6, 7, 8, 25, 26, 32, 33] [0, 1] _ _ rfl rfl rfl, _, _, rfl, rfl, h⟩
            · have h := iteF hb9 h
              refine ACode_exit ?_
              cases h
              exact Weak_keep 0 hm [0, 1, 6, 7, 25, 26] [0, 1] _ _ rfl rfl rfl
        intro E' H' hw
        refine ACode_weak hw ?_
        have h := hks16
        refine (ACode_region ?_)
        refine AOps_q 56 _ rfl rfl rfl (QOp_add _ _ _ _ _ _ _ rfl rfl rfl) ?_
        refine AOps_q 26 _ rfl rfl rfl (QOp_move _ _ rfl rfl) ?_
        refine AOps_nil ?_
        exact ⟨k0, _, _, Nat.lt_succ_self _, Weak_keep 0 hm [0, 1, 6, 7, 25, 26] [0, 1] _ _ rfl rfl rfl, _, _, rfl, rfl, h⟩
      · have h := iteF hb5 h
        refine ACode_exit ?_
        cases h
        exact Weak_keep 0 hm [0, 1, 6, 7] [0, 1] _ _ rfl rfl rfl
  intro E' H' hw
  refine ACode_weak hw ?_
  have h := hks17
  obtain ⟨s32, hss32, hks32⟩ := bindO h
  clear h
  refine ACode_seqJ (fun E' H' => Weak 100 G E' H' [(6, .vec 0 0), (7, .vec 1 0)] [.vec 0 (intsD s17), .vec 0 (intsD s32)]) ?_ ?_
  · have h := hss32
    clear hss32
    refine ACode_seq (ACode_region ?_)
    refine AOps_q 57 _ rfl rfl rfl (QOp_move _ _ rfl rfl) ?_
    refine AOps_q 58 _ rfl rfl rfl (QOp_nilCheck_pv _ _ _ rfl rfl) ?_
    refine AOps_q 59 _ rfl rfl rfl (QOp_fieldAddr_pv _ _ _ _ _ 0 _ _ rfl Try.underlying26 rfl _ Try.sizeOf2 rfl rfl) ?_
    refine AOps_q 60 _ rfl rfl rfl (QOp_load_pv _ _ _ _ _ rfl Try.isAgg2 rfl rfl) ?_
    refine AOps_q 61 _ rfl rfl rfl (QOp_sub _ _ _ _ _ _ _ rfl rfl rfl) ?_
    refine AOps_q 10 _ rfl rfl rfl (QOp_assign _ _ rfl rfl) ?_
    refine AOps_nil ?_
    refine ACode_block ?_
    refine ACode_loopW (fun k2 E H => ∃ (x18 : Int) (x19 : List Int), E = [(0, .d (.pv (colD p0) 0)), (1, iV p1), (6, .vec 0 0), (7, .vec 1 0), (10, iV x18)] ∧ H = [.vec 0 (intsD s17), .vec 0 (intsD x19)] ∧ impl_Colouring_ups_l2 k p0 p1 k2 x18 x19 = some s32) k _ _ (Weak_keep 0 hm [0, 1, 6, 7, 10] [0, 1] _ _ rfl rfl rfl) ⟨_, _, rfl, rfl, h⟩ ?_
    clear h
    rintro k2 E H ⟨x18, x19, rfl, rfl, h⟩
    cases k2 with
    | zero => cases (show (none : Option (List Int)) = some _ from h)
    | succ k2 =>
      rw [impl_Colouring_ups_l2] at h
      refine ACode_seq ?_
      refine ACode_seq (ACode_region ?_)
      refine AOps_q 62 _ rfl rfl rfl (QOp_move _ _ rfl rfl) ?_
      refine AOps_q 63 _ rfl rfl rfl (QOp_geq _ _ _ _ _ _ _ rfl rfl rfl) ?_
      refine AOps_nil ?_
      refine ACode_cond _ rfl (fun hb20 => ?_) (fun hb20 => ?_)
      · have h := iteT hb20 h
        refine ACode_skip ?_
        obtain ⟨s31, hss31, hks31⟩ := bindO h
        clear h
        refine ACode_seqJ (fun E' H' => Weak 100 G E' H' [(0, .d (.pv (colD p0) 0)), (1, iV p1), (6, .vec 0 0), (7, .vec 1 0), (10, iV x18)] [.vec 0 (intsD s17), .vec 0 (intsD s31)]) ?_ ?_
        · have h := hss31
          clear hss31
          refine ACode_block ?_
          refine ACode_seq (ACode_region ?_)
          refine AOps_q 66 _ rfl rfl rfl (QOp_move _ _ rfl rfl) ?_
          refine AOps_q 67 _ rfl rfl rfl (QOp_move _ _ rfl rfl) ?_
          obtain ⟨hc21, h⟩ := guardO h
          refine AOps_q 68 _ rfl rfl rfl (QOp_indexAddr_vec _ _ _ _ _ _ _ _ _ rfl Try.underlying29 Try.sizeOf2 hc21.1 (by rw [intsD_length]; exact hc21.2) rfl rfl rfl) ?_
          refine AOps_store_eptr _ _ _ _ _ _ (intsD x19) _ rfl rfl rfl rfl rfl rfl rfl Try.sizeOf2 (by rw [intsD_length]; omega) ?_
          rw [intsD_set]
          refine AOps_nil ?_
          refine ACode_seq (ACode_region ?_)
          refine AOps_q 69 _ rfl rfl rfl (QOp_move _ _ rfl rfl) ?_
          refine AOps_q 70 _ rfl rfl rfl (QOp_add _ _ _ _ _ _ _ rfl rfl rfl) ?_
          refine AOps_q 11 _ rfl rfl rfl (QOp_assign _ _ rfl rfl) ?_
          refine AOps_nil ?_
          refine ACode_block ?_
          refine ACode_loopW (fun k3 E H => ∃ (x22 : Int) (x23 : List Int), E = [(0, .d (.pv (colD p0) 0)), (1, iV p1), (6, .vec 0 0), (7, .vec 1 0), (10, iV x18), (11, iV x22)] ∧ H = [.vec 0 (intsD s17), .vec 0 (intsD x23)] ∧ impl_Colouring_ups_l3 p0 p1 x18 k3 x22 x23 = some s31) k _ _ (Weak_keep 0 hm [0, 1, 6, 7, 10, 11] [0, 1] _ _ rfl rfl rfl) ⟨_, _, rfl, rfl, h⟩ ?_
          clear h
          rintro k3 E H ⟨x22, x23, rfl, rfl, h⟩
          cases k3 with
          | zero => cases (show (none : Option (List Int)) = some _ from h)
          | succ k3 =>
            rw [impl_Colouring_ups_l3] at h
            refine ACode_seq ?_
            refine ACode_seq (ACode_region ?_)
            refine AOps_q 71 _ rfl rfl rfl (QOp_move _ _ rfl rfl) ?_
            refine AOps_q 72 _ rfl rfl rfl (QOp_move _ _ rfl rfl) ?_
            refine AOps_q 73 _ rfl rfl rfl (QOp_nilCheck_pv _ _ _ rfl rfl) ?_
            refine AOps_q 74 _ rfl rfl rfl (QOp_fieldAddr_pv _ _ _ _ _ 0 _ _ rfl Try.underlying26 rfl _ Try.sizeOf2 rfl rfl) ?_
            refine AOps_q 75 _ rfl rfl rfl (QOp_load_pv _ _ _ _ _ rfl Try.isAgg2 rfl rfl) ?_
            refine AOps_q 76 _ rfl rfl rfl (QOp_lss _ _ _ _ _ _ _ rfl rfl rfl) ?_
            refine AOps_nil ?_
            refine ACode_cond _ rfl (fun hb24 => ?_) (fun hb24 => ?_)
            · have h := iteT hb24 h
              refine ACode_skip ?_
              obtain ⟨s30, hss30, hks30⟩ := bindO h
              clear h
              refine ACode_seqJ (fun E' H' => Weak 100 G E' H' [(0, .d (.pv (colD p0) 0)), (1, iV p1), (6, .vec 0 0), (7, .vec 1 0), (10, iV x18), (11, iV x22)] [.vec 0 (intsD s17), .vec 0 (intsD s30)]) ?_ ?_
              · have h := hss30
                clear hss30
                refine ACode_block ?_
                refine ACode_seq (ACode_region ?_)
                refine AOps_q 79 _ rfl rfl rfl (QOp_move _ _ rfl rfl) ?_
                refine AOps_q 80 _ rfl rfl rfl (QOp_move _ _ rfl rfl) ?_
                refine AOps_q 81 _ rfl rfl rfl (QOp_move _ _ rfl rfl) ?_
                obtain ⟨r25, hr25, h⟩ := bindO h
                refine AOps_call [] 82 _ _ _ _ _ _ _ _ _ _ rfl rfl rfl rfl rfl rfl rfl Try.call51 rfl (nodupB_sound _ rfl) rfl rfl rfl (impl_Colouring_at_ac p0 x18 x22 _ hr25) ?_
                rintro _ _ ⟨rfl, rfl⟩
                refine ⟨(fun _ h => nomatch h), (allc (trivial) (fun _ h => nomatch h)), AOps_as 82 (v' := iV r25) (H' := [.vec 0 (intsD s17), .vec 0 (intsD x23)]) rfl rfl ?_⟩
                refine AOps_q 83 _ rfl rfl rfl (QOp_move _ _ rfl rfl) ?_
                refine AOps_q 84 _ rfl rfl rfl (QOp_eql _ _ _ _ _ _ _ rfl rfl rfl) ?_
                refine AOps_nil ?_
                refine ACode_cond _ rfl (fun hb26 => ?_) (fun hb26 => ?_)
                · have h := iteT hb26 h
                  refine (ACode_last (l := [_, _, _, _, _, _, _, _, _, _, _, _, _]) mixed (by kernel_rfl) (by kernel_rfl) ?_)
                  refine AQ_q 85 _ rfl rfl rfl (QOp_move _ _ rfl rfl) ?_
                  refine AQ_q 86 _ rfl rfl rfl (QOp_move _ _ rfl rfl) ?_
                  refine AQ_q 87 _ rfl rfl rfl (QOp_move _ _ rfl rfl) ?_
                  refine AQ_q 88 _ rfl rfl rfl (QOp_move _ _ rfl rfl) ?_
                  obtain ⟨hc27, h⟩ := guardO h
                  refine AQ_q 89 _ rfl rfl rfl (QOp_indexAddr_vec _ _ _ _ _ _ _ _ _ rfl Try.underlying29 Try.sizeOf2 hc27.1 (by rw [intsD_length]; exact hc27.2) rfl rfl rfl) ?_
                  refine AQ_q 90 _ rfl rfl rfl (QOp_load_eptr _ _ _ _ _ _ _ rfl Try.isAgg2 rfl rfl (intsD_get _ _ 0 (by omega))) ?_
                  refine AQ_q 91 _ rfl rfl rfl (QOp_move _ _ rfl rfl) ?_
                  refine AQ_q 92 _ rfl rfl rfl (QOp_move _ _ rfl rfl) ?_
                  obtain ⟨hc28, h⟩ := guardO h
                  refine AQ_q 93 _ rfl rfl rfl (QOp_indexAddr_vec _ _ _ _ _ _ _ _ _ rfl Try.underlying29 Try.sizeOf2 hc28.1 (by rw [intsD_length]; exact hc28.2) rfl rfl rfl) ?_
                  refine AQ_q 94 _ rfl rfl rfl (QOp_load_eptr _ _ _ _ _ _ _ rfl Try.isAgg2 rfl rfl (intsD_get _ _ 0 (by omega))) ?_
                  refine AQ_q 95 _ rfl rfl rfl (QOp_add _ _ _ _ _ _ _ rfl rfl rfl) ?_
                  refine AQ_q 96 _ rfl rfl rfl (QOp_max _ _ _ _ _ _ rfl rfl rfl rfl rfl) ?_
                  obtain ⟨hc29, h⟩ := guardO h
                  refine AQ_q 97 _ rfl rfl rfl (QOp_indexAddr_vec _ _ _ _ _ _ _ _ _ rfl Try.underlying29 Try.sizeOf2 hc29.1 (by rw [intsD_length]; exact hc29.2) rfl rfl rfl) ?_
                  refine AQ_nil ?_
                  refine AOps_store_eptr _ _ _ _ _ _ (intsD x23) _ rfl rfl rfl rfl rfl rfl rfl Try.sizeOf2 (by rw [intsD_length]; omega) ?_
                  rw [intsD_set]
                  refine AOps_nil ?_
                  cases h
                  exact Weak_keep 0 hm [0, 1, 6, 7, 10, 11] [0, 1] _ _ rfl rfl rfl
                · have h := iteF hb26 h
                  refine ACode_skip ?_
                  cases h
                  exact Weak_keep 0 hm [0, 1, 6, 7, 10, 11] [0, 1] _ _ rfl rfl rfl
              intro E' H' hw
              refine ACode_weak hw ?_
              have h := hks30
              refine (ACode_region ?_)
              refine AOps_q 77 _ rfl rfl rfl (QOp_move _ _ rfl rfl) ?_
              refine AOps_q 78 _ rfl rfl rfl (QOp_add _ _ _ _ _ _ _ rfl rfl rfl) ?_
              refine AOps_q 11 _ rfl rfl rfl (QOp_assign _ _ rfl rfl) ?_
              refine AOps_nil ?_
              exact ⟨k3, _, _, Nat.lt_succ_self _, Weak_keep 0 hm [0, 1, 6, 7, 10, 11] [0, 1] _ _ rfl rfl rfl, _, _, rfl, rfl, h⟩
            · have h := iteF hb24 h
              refine ACode_exit ?_
              cases h
              exact Weak_keep 0 hm [0, 1, 6, 7, 10] [0, 1] _ _ rfl rfl rfl
        intro E' H' hw
        refine ACode_weak hw ?_
        have h := hks31
        refine (ACode_region ?_)
        refine AOps_q 64 _ rfl rfl rfl (QOp_move _ _ rfl rfl) ?_
        refine AOps_q 65 _ rfl rfl rfl (QOp_sub _ _ _ _ _ _ _ rfl rfl rfl) ?_
        refine AOps_q 10 _ rfl rfl rfl (QOp_assign _ _ rfl rfl) ?_
        refine AOps_nil ?_
        exact ⟨k2, _, _, Nat.lt_succ_self _, Weak_keep 0 hm [0, 1, 6, 7, 10] [0, 1] _ _ rfl rfl rfl, _, _, rfl, rfl, h⟩
      · have h := iteF hb20 h
        refine ACode_exit ?_
        cases h
        exact Weak_keep 0 hm [6, 7] [0, 1] _ _ rfl rfl rfl
  intro E' H' hw
  refine ACode_weak hw ?_
  have h := hks32
  refine ACode_seq (ACode_region ?_)
  refine AOps_q 98 _ rfl rfl rfl (QOp_move _ _ rfl rfl) ?_
  refine AOps_q 99 _ rfl rfl rfl (QOp_move _ _ rfl rfl) ?_
  refine AOps_q 4 _ rfl rfl rfl (QOp_assign _ _ rfl rfl) ?_
  refine AOps_q 5 _ rfl rfl rfl (QOp_assign _ _ rfl rfl) ?_
  refine AOps_nil ?_
  refine ACode_ret ?_
  cases h
  exact ⟨_, _, Weak_reset 0 hm hz [4, 5] _ _ rfl rfl, _, _, [0, 1], _, (.cons (ResV_tmp _ _ rfl) (.cons (ResV_tmp _ _ rfl) .nil)), rfl, rfl, rfl, rfl, rfl⟩

-- slices.Max[[]int64,int64]
def slices_Max_l0 (p0 : List Int) : Nat → Int → Int → Option (Int)
  | 0, _, _ => none
  | k0 + 1, x4, x5 => (if decide (x5 < (p0.length : Int)) then (if 0 ≤ x5 ∧ x5 < (p0.length : Int) then slices_Max_l0 p0 k0 (if x4 < (p0.getD x5.toNat 0) then (p0.getD x5.toNat 0) else x4) (w64 (x5 + 1)) else none) else some x4)
def slices_Max (k : Nat) (p0 : List Int) : Option (Int) :=
  ((if decide ((p0.length : Int) < 1) then none else some ()) : Option (Unit)).bind fun s2 => (if 0 ≤ (0 : Int) ∧ (0 : Int) < (p0.length : Int) then (slices_Max_l0 p0 k (p0.getD (0 : Int).toNat 0) 1 : Option (Int)).bind fun s8 => some s8 else none)
set_option maxRecDepth 100000 in
theorem slices_Max_ac (k : Nat) (p0 : List Int) (r : Int) (h : slices_Max k p0 = some r) : AC Try.prog 50 [.d (.sl none (intsD p0))] [] (fun res H' => res = [iV r] ∧ H' = []) := by
  refine AC_of_body true Try.func50 rfl Try.ntmps50 (rvs := [.tmp 2]) rfl rfl (fun G hG => ?_)
  have hm : G.H.length = 0 := by rw [hG]; rfl
  have hz : zeroG G.H = true := by rw [hG]; rfl
  unfold slices_Max at h
  refine ACode_seq (ACode_region ?_)
  refine AOps_q 2 _ rfl rfl rfl (QOp_assign _ _ rfl rfl) ?_
  refine AOps_nil ?_
  obtain ⟨s2, hss2, hks2⟩ := bindO h
  clear h
  refine ACode_seqJ (fun E' H' => Weak 25 G E' H' [(0, .d (.sl none (intsD p0)))] []) ?_ ?_
  · have h := hss2
    clear hss2
    refine ACode_seq (ACode_region ?_)
    refine AOps_q 5 _ rfl rfl rfl (QOp_move _ _ rfl rfl) ?_
    refine AOps_q 6 _ rfl rfl rfl (QOp_len_sl _ _ _ _ _ _ _ (intsD_length _) rfl rfl rfl rfl Try.underlying29 rfl) ?_
    refine AOps_q 7 _ rfl rfl rfl (QOp_lss _ _ _ _ _ _ _ rfl rfl rfl) ?_
    refine AOps_nil ?_
    refine ACode_cond _ rfl (fun hb1 => ?_) (fun hb1 => ?_)
    · have h := iteT hb1 h
      refine (ACode_region ?_)
      cases h
    · have h := iteF hb1 h
      refine ACode_skip ?_
      cases h
      exact Weak_keep 0 hm [0] [] _ _ rfl rfl rfl
  intro E' H' hw
  refine ACode_weak hw ?_
  have h := hks2
  refine ACode_seq (ACode_region ?_)
  refine AOps_q 9 _ rfl rfl rfl (QOp_move _ _ rfl rfl) ?_
  obtain ⟨hc3, h⟩ := guardO h
  refine AOps_q 10 _ rfl rfl rfl (QOp_indexAddr_sl _ _ _ _ _ _ _ _ rfl Try.underlying29 Try.sizeOf2 hc3.1 (by rw [intsD_length]; exact hc3.2) rfl rfl) ?_
  refine AOps_q 11 _ rfl rfl rfl (QOp_load_pv _ _ _ _ _ rfl Try.isAgg2 rfl (intsD_get _ _ 0 (by omega))) ?_
  refine AOps_q 3 _ rfl rfl rfl (QOp_assign _ _ rfl rfl) ?_
  refine AOps_nil ?_
  obtain ⟨s8, hss8, hks8⟩ := bindO h
  clear h
  refine ACode_seqJ (fun E' H' => Weak 25 G E' H' [(3, iV s8)] []) ?_ ?_
  · have h := hss8
    clear hss8
    refine ACode_seq (ACode_region ?_)
    refine AOps_q 4 _ rfl rfl rfl (QOp_assign _ _ rfl rfl) ?_
    refine AOps_nil ?_
    refine ACode_block ?_
    refine ACode_loopW (fun k0 E H => ∃ (x4 : Int) (x5 : Int), E = [(0, .d (.sl none (intsD p0))), (3, iV x4), (4, iV x5)] ∧ H = [] ∧ slices_Max_l0 p0 k0 x4 x5 = some s8) k _ _ (Weak_keep 0 hm [0, 3, 4] [] _ _ rfl rfl rfl) ⟨_, _, rfl, rfl, h⟩ ?_
    clear h
    rintro k0 E H ⟨x4, x5, rfl, rfl, h⟩
    cases k0 with
    | zero => cases (show (none : Option (Int)) = some _ from h)
    | succ k0 =>
      rw [slices_Max_l0] at h
      refine ACode_seq ?_
      refine ACode_seq (ACode_region ?_)
      refine AOps_q 12 _ rfl rfl rfl (QOp_move _ _ rfl rfl) ?_
      refine AOps_q 13 _ rfl rfl rfl (QOp_move _ _ rfl rfl) ?_
      refine AOps_q 14 _ rfl rfl rfl (QOp_len_sl _ _ _ _ _ _ _ (intsD_length _) rfl rfl rfl rfl Try.underlying29 rfl) ?_
      refine AOps_q 15 _ rfl rfl rfl (QOp_lss _ _ _ _ _ _ _ rfl rfl rfl) ?_
      refine AOps_nil ?_
      refine ACode_cond _ rfl (fun hb6 => ?_) (fun hb6 => ?_)
      · have h := iteT hb6 h
        refine ACode_skip ?_
        refine ACode_seq ?_
        refine ACode_block ?_
        refine (ACode_region ?_)
        refine AOps_q 18 _ rfl rfl rfl (QOp_move _ _ rfl rfl) ?_
        refine AOps_q 19 _ rfl rfl rfl (QOp_move _ _ rfl rfl) ?_
        refine AOps_q 20 _ rfl rfl rfl (QOp_move _ _ rfl rfl) ?_
        obtain ⟨hc7, h⟩ := guardO h
        refine AOps_q 21 _ rfl rfl rfl (QOp_indexAddr_sl _ _ _ _ _ _ _ _ rfl Try.underlying29 Try.sizeOf2 hc7.1 (by rw [intsD_length]; exact hc7.2) rfl rfl) ?_
        refine AOps_q 22 _ rfl rfl rfl (QOp_load_pv _ _ _ _ _ rfl Try.isAgg2 rfl (intsD_get _ _ 0 (by omega))) ?_
        refine AOps_q 23 _ rfl rfl rfl (QOp_max _ _ _ _ _ _ rfl rfl rfl rfl rfl) ?_
        refine AOps_q 3 _ rfl rfl rfl (QOp_assign _ _ rfl rfl) ?_
        refine AOps_nil ?_
        refine (ACode_region ?_)
        refine AOps_q 16 _ rfl rfl rfl (QOp_move _ _ rfl rfl) ?_
        refine AOps_q 17 _ rfl rfl rfl (QOp_add _ _ _ _ _ _ _ rfl rfl rfl) ?_
        refine AOps_q 4 _ rfl rfl rfl (QOp_assign _ _ rfl rfl) ?_
        refine AOps_nil ?_
        exact ⟨k0, _, _, Nat.lt_succ_self _, Weak_keep 0 hm [0, 3, 4] [] _ _ rfl rfl rfl, _, _, rfl, rfl, h⟩
      · have h := iteF hb6 h
        refine ACode_exit ?_
        cases h
        exact Weak_keep 0 hm [3] [] _ _ rfl rfl rfl
  intro E' H' hw
  refine ACode_weak hw ?_
  have h := hks8
  refine ACode_seq (ACode_region ?_)
  refine AOps_q 24 _ rfl rfl rfl (QOp_move _ _ rfl rfl) ?_
  refine AOps_q 2 _ rfl rfl rfl (QOp_assign _ _ rfl rfl) ?_
  refine AOps_nil ?_
  refine ACode_ret ?_
  cases h
  exact ⟨_, _, fun r a w h => ⟨r, h⟩, _, _, [], _, (.cons (ResV_tmp _ _ rfl) .nil), rfl, rfl, rfl, rfl, rfl⟩

-- loop.example/g01362/impl.LongestUp
def impl_LongestUp_l0 (p0 : Col) (p1 : Int) (r3 : List Int × List Int) : Nat → Int → Int → (List Int) → Option (List Int)
  | 0, _, _, _ => none
  | k0 + 1, x5, x6, x7 => (if decide (x6 < p0.p) then (((if 0 ≤ x6 ∧ x6 < (r3.2.length : Int) then (if decide ((r3.2.getD x6.toNat 0) = x5) then (if decide ((x7.length : Int) = 0) then some true else (if 0 ≤ w64 ((x7.length : Int) - 1) ∧ w64 ((x7.length : Int) - 1) < (x7.length : Int) then (impl_Colouring_at p0 (x7.getD (w64 ((x7.length : Int) - 1)).toNat 0) x6).bind fun r13 => some (decide (r13 = p1)) else none)) else some false) else none) : Option (Bool)).bind fun s14 => (if s14 then (if x7.length + ([x6]).length ≤ 1099511627776 then some (w64 (x5 - 1), (x7 ++ ([x6]))) else none) else some (x5, x7)) : Option (Int × List Int)).bind fun s17 => impl_LongestUp_l0 p0 p1 r3 k0 s17.1 (w64 (x6 + 1)) s17.2 else some x7)
def impl_LongestUp (k : Nat) (p0 : Col) (p1 : Int) : Option (Option (List Int) × Int) :=
  (impl_Colouring_colourCode k p0 p1 true).bind fun r1 => (if !decide (r1 = 0) then some (none, r1) else (impl_Colouring_ups k p0 p1).bind fun r3 => (slices_Max k r3.2).bind fun r4 => (impl_LongestUp_l0 p0 p1 r3 k r4 0 ([] : List Int) : Option (List Int)).bind fun s18 => some (some s18, 0))
set_option maxRecDepth 100000 in
theorem impl_LongestUp_ac (k : Nat) (p0 : Col) (p1 : Int) (r : Option (List Int) × Int) (h : impl_LongestUp k p0 p1 = some r) : AC Try.prog 8 [.d (.agg (colD p0)), iV p1] [] (fun res H' => res = [ownA 0 (r.1.map intsD), iV r.2] ∧ H' = [] ++ ownH (r.1.map intsD)) := by
  refine AC_of_body false Try.func8 rfl Try.ntmps8 (rvs := [.tmp 4, .tmp 5]) rfl rfl (fun G hG => ?_)
  have hm : G.H.length = 0 := by rw [hG]; rfl
  have hz : zeroG G.H = true := by rw [hG]; rfl
  unfold impl_LongestUp at h
  refine ACode_seq (ACode_region ?_)
  refine AOps_boxI 2 _ _ (.agg (colD p0)) (colD p0) rfl (colD_one _) rfl rfl rfl rfl rfl ?_
  refine AOps_q 4 _ rfl rfl rfl (QOp_assign _ _ rfl rfl) ?_
  refine AOps_q 5 _ rfl rfl rfl (QOp_assign _ _ rfl rfl) ?_
  refine AOps_nil ?_
  refine ACode_seq ?_
  refine ACode_seq (ACode_region ?_)
  refine AOps_q 12 _ rfl rfl rfl (QOp_move _ _ rfl rfl) ?_
  obtain ⟨r1, hr1, h⟩ := bindO h
  refine AOps_call [] 13 _ _ _ _ _ _ _ _ _ _ rfl rfl rfl rfl rfl rfl rfl Try.call48 rfl (nodupB_sound _ rfl) rfl rfl rfl (impl_Colouring_colourCode_ac k p0 p1 true _ hr1) ?_
  rintro _ _ ⟨rfl, rfl⟩
  refine ⟨(fun _ h => nomatch h), (allc (trivial) (fun _ h => nomatch h)), AOps_as 13 (v' := iV r1) (H' := []) rfl rfl ?_⟩
  refine AOps_q 6 _ rfl rfl rfl (QOp_assign _ _ rfl rfl) ?_
  refine AOps_nil ?_
  refine ACode_seq (ACode_region ?_)
  refine AOps_q 14 _ rfl rfl rfl (QOp_move _ _ rfl rfl) ?_
  refine AOps_q 15 _ rfl rfl rfl (QOp_neq _ _ _ _ _ _ _ rfl rfl rfl) ?_
  refine AOps_nil ?_
  refine ACode_cond _ rfl (fun hb2 => ?_) (fun hb2 => ?_)
  · have h := iteT hb2 h
    refine ACode_seq (ACode_region ?_)
    refine AOps_q 16 _ rfl rfl rfl (QOp_move _ _ rfl rfl) ?_
    refine AOps_q 4 _ rfl rfl rfl (QOp_assign _ _ rfl rfl) ?_
    refine AOps_q 5 _ rfl rfl rfl (QOp_assign _ _ rfl rfl) ?_
    refine AOps_nil ?_
    refine ACode_ret ?_
    cases h
    exact ⟨_, _, fun r a w h => ⟨r, h⟩, _, _, [], _, (.cons (ResV_tmp _ _ rfl) (.cons (ResV_tmp _ _ rfl) .nil)), rfl, rfl, rfl, rfl, rfl⟩
  · have h := iteF hb2 h
    refine ACode_skip ?_
    refine ACode_seq (ACode_region ?_)
    refine AOps_q 18 _ rfl rfl rfl (QOp_move _ _ rfl rfl) ?_
    obtain ⟨r3, hr3, h⟩ := bindO h
    refine AOps_call [] 19 _ _ _ _ _ _ _ _ _ _ rfl rfl rfl rfl rfl rfl rfl Try.call49 rfl (nodupB_sound _ rfl) rfl rfl rfl (impl_Colouring_ups_ac k p0 p1 _ hr3) ?_
    rintro _ _ ⟨rfl, rfl⟩
    refine ⟨(allc (fun _ _ => trivial) (allc (fun _ _ => trivial) (fun _ h => nomatch h))), (allc (trivial) (allc (trivial) (fun _ h => nomatch h))), AOps_as 19 (v' := .tup [.vec 0 0, .vec 1 0]) (H' := [.vec 0 (intsD r3.1), .vec 0 (intsD r3.2)]) rfl rfl ?_⟩
    refine AOps_q 17 _ rfl rfl rfl (QOp_move _ _ rfl rfl) ?_
    refine AOps_q 20 _ rfl rfl rfl (QOp_extract _ _ _ _ rfl rfl rfl) ?_
    refine AOps_q 21 _ rfl rfl rfl (QOp_extract _ _ _ _ rfl rfl rfl) ?_
    refine AOps_q 7 _ rfl rfl rfl (QOp_assign _ _ rfl rfl) ?_
    refine AOps_q 8 _ rfl rfl rfl (QOp_assign _ _ rfl rfl) ?_
    refine AOps_nil ?_
    refine ACode_seq (ACode_region ?_)
    refine AOps_q 22 _ rfl rfl rfl (QOp_move _ _ rfl rfl) ?_
    obtain ⟨r4, hr4, h⟩ := bindO h
    refine AOps_callL [] 23 _ _ _ _ _ _ _ _ _ _ rfl rfl rfl rfl rfl rfl rfl Try.call50 rfl (nodupB_sound _ rfl) rfl rfl rfl (slices_Max_ac k r3.2 _ hr4) ?_
    rintro _ _ ⟨rfl, rfl⟩
    refine ⟨(fun _ h => nomatch h), (allc (flat_s _) (fun _ h => nomatch h)), AOps_as 23 (v' := iV r4) (H' := [.vec 0 (intsD r3.1), .vec 0 (intsD r3.2)]) rfl rfl ?_⟩
    refine AOps_buildSlice 24 _ _ _ [] (intsD ([] : List Int)) _ rfl rfl rfl rfl rfl (by decide) Try.underlying29 Try.sizeOf2 (zero_of Try.typeInfo2 rfl) rfl rfl (intsD_one _) ?_
    refine AOps_q 9 _ rfl rfl rfl (QOp_assign _ _ rfl rfl) ?_
    refine AOps_q 10 _ rfl rfl rfl (QOp_assign _ _ rfl rfl) ?_
    refine AOps_nil ?_
    obtain ⟨s18, hss18, hks18⟩ := bindO h
    clear h
    refine ACode_seqJ (fun E' H' => Weak 61 G E' H' [(10, .vec 0 0)] [.vec 0 (intsD s18)]) ?_ ?_
    · have h := hss18
      clear hss18
      refine ACode_seq (ACode_region ?_)
      refine AOps_q 25 _ rfl rfl rfl (QOp_fieldAddr_pv _ _ _ _ _ 0 _ _ rfl Try.underlying26 rfl _ Try.sizeOf2 rfl rfl) ?_
      refine AOps_q 26 _ rfl rfl rfl (QOp_load_pv _ _ _ _ _ rfl Try.isAgg2 rfl rfl) ?_
      refine AOps_q 27 _ rfl rfl rfl (QOp_move _ _ rfl rfl) ?_
      refine AOps_nil ?_
      refine ACode_block ?_
      refine ACode_loopW (fun k0 E H => ∃ (x5 : Int) (x6 : Int) (x7 : List Int), E = [(1, iV p1), (2, .d (.pv (colD p0) 0)), (8, .vec 0 0), (9, iV x5), (10, .vec 1 0), (26, iV p0.p), (27, iV x6)] ∧ H = [.vec 0 (intsD r3.2), .vec 0 (intsD x7)] ∧ impl_LongestUp_l0 p0 p1 r3 k0 x5 x6 x7 = some s18) k _ _ (Weak_keep 0 hm [1, 2, 8, 9, 10, 26, 27] [1, 2] _ _ rfl rfl rfl) ⟨_, _, _, rfl, rfl, h⟩ ?_
      clear h
      rintro k0 E H ⟨x5, x6, x7, rfl, rfl, h⟩
      cases k0 with
      | zero => cases (show (none : Option (List Int)) = some _ from h)
      | succ k0 =>
        rw [impl_LongestUp_l0] at h
        refine ACode_seq (ACode_region ?_)
        refine AOps_q 28 _ rfl rfl rfl (QOp_lss _ _ _ _ _ _ _ rfl rfl rfl) ?_
        refine AOps_nil ?_
        refine ACode_seq ?_
        refine ACode_cond _ rfl (fun hb8 => ?_) (fun hb8 => ?_)
        · have h := iteT hb8 h
          refine ACode_skip ?_
          obtain ⟨s17, hss17, hks17⟩ := bindO h
          clear h
          refine ACode_seqJ (fun E' H' => Weak 61 G E' H' [(1, iV p1), (2, .d (.pv (colD p0) 0)), (8, .vec 0 0), (9, iV s17.1), (10, .vec 1 0), (26, iV p0.p), (27, iV x6)] [.vec 0 (intsD r3.2), .vec 0 (intsD s17.2)]) ?_ ?_
          · have h := hss17
            clear hss17
            refine ACode_block ?_
            refine ACode_seq (ACode_region ?_)
            refine AOps_q 29 _ rfl rfl rfl (QOp_move _ _ rfl rfl) ?_
            refine AOps_q 11 _ rfl rfl rfl (QOp_assign _ _ rfl rfl) ?_
            refine AOps_nil ?_
            obtain ⟨s14, hss14, hks14⟩ := bindO h
            clear h
            refine ACode_seqJ (fun E' H' => Weak 61 G E' H' [(1, iV p1), (2, .d (.pv (colD p0) 0)), (8, .vec 0 0), (9, iV x5), (10, .vec 1 0), (11, iV x6), (26, iV p0.p), (27, iV x6), (52, bV s14)] [.vec 0 (intsD r3.2), .vec 0 (intsD x7)]) ?_ ?_
            · have h := hss14
              clear hss14
              refine (ACode_region ?_)
              refine AOps_q 30 _ rfl rfl rfl (QOp_move _ _ rfl rfl) ?_
              refine AOps_q 31 _ rfl rfl rfl (QOp_move _ _ rfl rfl) ?_
              obtain ⟨hc9, h⟩ := guardO h
              refine AOps_q 32 _ rfl rfl rfl (QOp_indexAddr_vec _ _ _ _ _ _ _ _ _ rfl Try.underlying29 Try.sizeOf2 hc9.1 (by rw [intsD_length]; exact hc9.2) rfl rfl rfl) ?_
              refine AOps_q 33 _ rfl rfl rfl (QOp_load_eptr _ _ _ _ _ _ _ rfl Try.isAgg2 rfl rfl (intsD_get _ _ 0 (by omega))) ?_
              refine AOps_q 34 _ rfl rfl rfl (QOp_move _ _ rfl rfl) ?_
              refine AOps_q 35 _ rfl rfl rfl (QOp_eql _ _ _ _ _ _ _ rfl rfl rfl) ?_
              refine AOps_q 36 _ rfl rfl rfl (QOp_move _ _ rfl rfl) ?_
              refine AOps_case 36 _ rfl (fun hb10 => ?_) (fun hb10 => ?_)
              · have h := iteT hb10 h
                refine AOps_q 37 _ rfl rfl rfl (QOp_move _ _ rfl rfl) ?_
                refine AOps_q 38 _ rfl rfl rfl (QOp_len_vec _ _ _ _ _ _ _ _ (intsD_length _) rfl rfl rfl rfl Try.underlying29 rfl rfl) ?_
                refine AOps_q 39 _ rfl rfl rfl (QOp_eql _ _ _ _ _ _ _ rfl rfl rfl) ?_
                refine AOps_q 40 _ rfl rfl rfl (QOp_move _ _ rfl rfl) ?_
                refine AOps_case 40 _ rfl (fun hb11 => ?_) (fun hb11 => ?_)
                · have h := iteT hb11 h
                  refine AOps_skip 41 rfl rfl rfl ?_
                  refine AOps_skip 42 rfl rfl rfl ?_
                  refine AOps_skip 43 rfl rfl rfl ?_
                  refine AOps_skip 44 rfl rfl rfl ?_
                  refine AOps_skip 45 rfl rfl rfl ?_
                  refine AOps_skip 46 rfl rfl rfl ?_
                  refine AOps_skip 47 rfl rfl rfl ?_
                  refine AOps_skip 48 rfl rfl rfl ?_
                  refine AOps_skip 49 rfl rfl rfl ?_
                  refine AOps_skip 50 rfl rfl rfl ?_
                  refine AOps_q 51 _ rfl rfl rfl (QOp_pick_t _ _ _ _ rfl rfl rfl) ?_
                  refine AOps_q 52 _ rfl rfl rfl (QOp_pick_t _ _ _ _ rfl rfl rfl) ?_
                  refine AOps_nil ?_
                  cases h
                  exact Weak_keep 0 hm [1, 2, 8, 9, 10, 11, 26, 27, 52] [0, 1] _ _ rfl rfl rfl
                · have h := iteF hb11 h
                  refine AOps_q 41 _ rfl rfl rfl (QOp_move _ _ rfl rfl) ?_
                  refine AOps_q 42 _ rfl rfl rfl (QOp_move _ _ rfl rfl) ?_
                  refine AOps_q 43 _ rfl rfl rfl (QOp_len_vec _ _ _ _ _ _ _ _ (intsD_length _) rfl rfl rfl rfl Try.underlying29 rfl rfl) ?_
                  refine AOps_q 44 _ rfl rfl rfl (QOp_sub _ _ _ _ _ _ _ rfl rfl rfl) ?_
                  obtain ⟨hc12, h⟩ := guardO h
                  refine AOps_q 45 _ rfl rfl rfl (QOp_indexAddr_vec _ _ _ _ _ _ _ _ _ rfl Try.underlying29 Try.sizeOf2 hc12.1 (by rw [intsD_length]; exact hc12.2) rfl rfl rfl) ?_
                  refine AOps_q 46 _ rfl rfl rfl (QOp_load_eptr _ _ _ _ _ _ _ rfl Try.isAgg2 rfl rfl (intsD_get _ _ 0 (by omega))) ?_
                  refine AOps_q 47 _ rfl rfl rfl (QOp_move _ _ rfl rfl) ?_
                  obtain ⟨r13, hr13, h⟩ := bindO h
                  refine AOps_call [] 48 _ _ _ _ _ _ _ _ _ _ rfl rfl rfl rfl rfl rfl rfl Try.call51 rfl (nodupB_sound _ rfl) rfl rfl rfl (impl_Colouring_at_ac p0 (x7.getD (w64 ((x7.length : Int) - 1)).toNat 0) x6 _ hr13) ?_
                  rintro _ _ ⟨rfl, rfl⟩
                  refine ⟨(fun _ h => nomatch h), (allc (trivial) (fun _ h => nomatch h)), AOps_as 48 (v' := iV r13) (H' := [.vec 0 (intsD r3.2), .vec 0 (intsD x7)]) rfl rfl ?_⟩
                  refine AOps_q 49 _ rfl rfl rfl (QOp_move _ _ rfl rfl) ?_
                  refine AOps_q 50 _ rfl rfl rfl (QOp_eql _ _ _ _ _ _ _ rfl rfl rfl) ?_
                  refine AOps_q 51 _ rfl rfl rfl (QOp_pick_f _ _ _ _ rfl rfl rfl) ?_
                  refine AOps_q 52 _ rfl rfl rfl (QOp_pick_t _ _ _ _ rfl rfl rfl) ?_
                  refine AOps_nil ?_
                  cases h
                  exact Weak_keep 0 hm [1, 2, 8, 9, 10, 11, 26, 27, 52] [0, 1] _ _ rfl rfl rfl
              · have h := iteF hb10 h
                refine AOps_skip 37 rfl rfl rfl ?_
                refine AOps_skip 38 rfl rfl rfl ?_
                refine AOps_skip 39 rfl rfl rfl ?_
                refine AOps_skip 40 rfl rfl rfl ?_
                refine AOps_skip 41 rfl rfl rfl ?_
                refine AOps_skip 42 rfl rfl rfl ?_
                refine AOps_skip 43 rfl rfl rfl ?_
                refine AOps_skip 44 rfl rfl rfl ?_
                refine AOps_skip 45 rfl rfl rfl ?_
                refine AOps_skip 46 rfl rfl rfl ?_
                refine AOps_skip 47 rfl rfl rfl ?_
                refine AOps_skip 48 rfl rfl rfl ?_
                refine AOps_skip 49 rfl rfl rfl ?_
                refine AOps_skip 50 rfl rfl rfl ?_
                refine AOps_skip 51 rfl rfl rfl ?_
                refine AOps_q 52 _ rfl rfl rfl (QOp_pick_f _ _ _ _ rfl rfl rfl) ?_
                refine AOps_nil ?_
                cases h
                exact Weak_keep 0 hm [1, 2, 8, 9, 10, 11, 26, 27, 52] [0, 1] _ _ rfl rfl rfl
            intro E' H' hw
            refine ACode_weak hw ?_
            have h := hks14
            refine ACode_cond _ rfl (fun hb15 => ?_) (fun hb15 => ?_)
            · have h := iteT hb15 h
              refine ACode_seq (ACode_region ?_)
              refine AOps_q 53 _ rfl rfl rfl (QOp_move _ _ rfl rfl) ?_
              refine AOps_q 54 _ rfl rfl rfl (QOp_move _ _ rfl rfl) ?_
              refine AOps_buildSlice 55 _ _ _ [_] (intsD ([x6])) _ rfl rfl rfl rfl rfl (by decide) Try.underlying29 Try.sizeOf2 (zero_of Try.typeInfo2 rfl) rfl rfl (intsD_one _) ?_
              obtain ⟨hc16, h⟩ := guardO h
              refine AOps_append 56 _ _ _ _ _ _ _ _ _ _ _ _ rfl rfl rfl rfl rfl rfl rfl Try.underlying29 Try.type2 rfl rfl rfl (by decide) rfl rfl rfl rfl (intsD_one _) (by rw [intsD_length, intsD_length]; exact hc16) ?_
              rw [intsD_app]
              refine AOps_q 10 _ rfl rfl rfl (QOp_assign _ _ rfl rfl) ?_
              refine AOps_nil ?_
              refine (ACode_region ?_)
              refine AOps_q 57 _ rfl rfl rfl (QOp_move _ _ rfl rfl) ?_
              refine AOps_q 58 _ rfl rfl rfl (QOp_sub _ _ _ _ _ _ _ rfl rfl rfl) ?_
              refine AOps_q 9 _ rfl rfl rfl (QOp_assign _ _ rfl rfl) ?_
              refine AOps_nil ?_
              cases h
              exact Weak_trans (Weak_keep 0 hm [1, 2, 8, 9, 10, 26, 27] [0, 1] _ _ rfl rfl rfl) (Weak_reset 0 hm hz [1, 2, 8, 9, 10, 26, 27] _ _ rfl rfl)
            · have h := iteF hb15 h
              refine ACode_skip ?_
              cases h
              exact Weak_keep 0 hm [1, 2, 8, 9, 10, 26, 27] [0, 1] _ _ rfl rfl rfl
          intro E' H' hw
          refine ACode_weak hw ?_
          have h := hks17
          refine (ACode_region ?_)
          refine AOps_q 59 _ rfl rfl rfl (QOp_add _ _ _ _ _ _ _ rfl rfl rfl) ?_
          refine AOps_q 27 _ rfl rfl rfl (QOp_move _ _ rfl rfl) ?_
          refine AOps_nil ?_
          exact ⟨k0, _, _, Nat.lt_succ_self _, Weak_keep 0 hm [1, 2, 8, 9, 10, 26, 27] [0, 1] _ _ rfl rfl rfl, _, _, _, rfl, rfl, h⟩
        · have h := iteF hb8 h
          refine ACode_exit ?_
          cases h
          exact Weak_keep 0 hm [10] [1] _ _ rfl rfl rfl
    intro E' H' hw
    refine ACode_weak hw ?_
    have h := hks18
    refine ACode_seq (ACode_region ?_)
    refine AOps_q 60 _ rfl rfl rfl (QOp_move _ _ rfl rfl) ?_
    refine AOps_q 4 _ rfl rfl rfl (QOp_assign _ _ rfl rfl) ?_
    refine AOps_q 5 _ rfl rfl rfl (QOp_assign _ _ rfl rfl) ?_
    refine AOps_nil ?_
    refine ACode_ret ?_
    cases h
    exact ⟨_, _, Weak_reset 0 hm hz [4, 5] _ _ rfl rfl, _, _, [0], _, (.cons (ResV_tmp _ _ rfl) (.cons (ResV_tmp _ _ rfl) .nil)), rfl, rfl, rfl, rfl, rfl⟩

-- loop.example/g01362/spec.l01Is
def spec_l01Is_l0 (k : Nat) (p0 : Col) : Nat → Int → Option (Sum (Unit) (Bool))
  | 0, _ => none
  | k0 + 1, x7 => (if decide (x7 < 136) then (((if decide (x7 < w64 ((w64 (p0.p * (w64 (p0.p - 1)))).tdiv 2)) then (if 0 ≤ x7 ∧ x7 < 136 then (if decide (p0.k ≤ ((p0.get x7.toNat).toNat : Int)) then some true else (if decide (w64 ((w64 (p0.p * (w64 (p0.p - 1)))).tdiv 2) ≤ x7) then (if 0 ≤ x7 ∧ x7 < 136 then some (!decide (((p0.get x7.toNat).toNat : Int) = 0)) else none) else some false)) else none) else (if decide (w64 ((w64 (p0.p * (w64 (p0.p - 1)))).tdiv 2) ≤ x7) then (if 0 ≤ x7 ∧ x7 < 136 then some (!decide (((p0.get x7.toNat).toNat : Int) = 0)) else none) else some false)) : Option (Bool)).bind fun s16 => (if s16 then (some (.inr false)).bind fun rr => some (.inr rr) else some (.inl ())) : Option (Sum (Unit) (Sum (Unit) (Bool)))).bind fun os18 => (match os18 with | .inl s18 => spec_l01Is_l0 k p0 k0 (w64 (x7 + 1)) | .inr rr => some rr) else some (.inl ()))
def spec_l01Is (k : Nat) (p0 : Col) : Option (Bool) :=
  (letO (if !(spec_l01In p0.p 1 17) then true else !(spec_l01In p0.k 1 4)) fun (s4 : Bool) => (if s4 then some (.inr false) else some (.inl ())) : Option (Sum (Unit) (Bool))).bind fun os6 => (match os6 with | .inl s6 => (spec_l01Is_l0 k p0 k 0 : Option (Sum (Unit) (Bool))).bind fun os19 => (match os19 with | .inl s19 => some true | .inr rr => some rr) | .inr rr => some rr)
set_option maxRecDepth 100000 in
theorem spec_l01Is_ac (k : Nat) (p0 : Col) (r : Bool) (h : spec_l01Is k p0 = some r) : AC Try.prog 72 [.d (.agg (colD p0))] [] (fun res H' => res = [bV r] ∧ H' = []) := by
  refine AC_of_body true Try.func72 rfl Try.ntmps72 (rvs := [.tmp 2]) rfl rfl (fun G hG => ?_)
  have hm : G.H.length = 0 := by rw [hG]; rfl
  have hz : zeroG G.H = true := by rw [hG]; rfl
  unfold spec_l01Is at h
  refine ACode_seq (ACode_region ?_)
  refine AOps_boxI 1 _ _ (.agg (colD p0)) (colD p0) rfl (colD_one _) rfl rfl rfl rfl rfl ?_
  refine AOps_q 2 _ rfl rfl rfl (QOp_assign _ _ rfl rfl) ?_
  refine AOps_nil ?_
  obtain ⟨os6, hss6, hks6⟩ := bindO h
  clear h
  refine ACode_seqJ (fun E' H' => ∃ s6 : Unit, os6 = .inl s6 ∧ Weak 51 G E' H' [(1, .d (.pv (colD p0) 0))] []) ?_ ?_
  · have h := hss6
    clear hss6
    obtain ⟨s4, hss4, hks4⟩ := letS h
    clear h
    refine ACode_seqJ (fun E' H' => Weak 51 G E' H' [(1, .d (.pv (colD p0) 0)), (14, bV s4)] []) ?_ ?_
    · have h := hss4
      clear hss4
      refine (ACode_region ?_)
      refine AOps_q 5 _ rfl rfl rfl (QOp_fieldAddr_pv _ _ _ _ _ 0 _ _ rfl Try.underlying26 rfl _ Try.sizeOf2 rfl rfl) ?_
      refine AOps_q 6 _ rfl rfl rfl (QOp_load_pv _ _ _ _ _ rfl Try.isAgg2 rfl rfl) ?_
      refine AOps_call [] 7 _ _ _ _ _ _ _ _ _ _ rfl rfl rfl rfl rfl rfl rfl Try.call66 rfl (nodupB_sound _ rfl) rfl rfl rfl (spec_l01In_ac p0.p 1 17) ?_
      rintro _ _ ⟨rfl, rfl⟩
      refine ⟨(fun _ h => nomatch h), (allc (trivial) (fun _ h => nomatch h)), AOps_as 7 (v' := bV (spec_l01In p0.p 1 17)) (H' := []) rfl rfl ?_⟩
      refine AOps_q 8 _ rfl rfl rfl (QOp_not _ _ _ rfl rfl) ?_
      refine AOps_q 9 _ rfl rfl rfl (QOp_move _ _ rfl rfl) ?_
      refine AOps_case 9 _ rfl (fun hb2 => ?_) (fun hb2 => ?_)
      · have h := iteT hb2 h
        refine AOps_skip 10 rfl rfl rfl ?_
        refine AOps_skip 11 rfl rfl rfl ?_
        refine AOps_skip 12 rfl rfl rfl ?_
        refine AOps_skip 13 rfl rfl rfl ?_
        refine AOps_q 14 _ rfl rfl rfl (QOp_pick_t _ _ _ _ rfl rfl rfl) ?_
        refine AOps_nil ?_
        cases h
        exact Weak_keep 0 hm [1, 14] [] _ _ rfl rfl rfl
      · have h := iteF hb2 h
        refine AOps_q 10 _ rfl rfl rfl (QOp_fieldAddr_pv _ _ _ _ _ 1 _ _ rfl Try.underlying26 rfl _ Try.sizeOf2 rfl rfl) ?_
        refine AOps_q 11 _ rfl rfl rfl (QOp_load_pv _ _ _ _ _ rfl Try.isAgg2 rfl rfl) ?_
        refine AOps_call [] 12 _ _ _ _ _ _ _ _ _ _ rfl rfl rfl rfl rfl rfl rfl Try.call66 rfl (nodupB_sound _ rfl) rfl rfl rfl (spec_l01In_ac p0.k 1 4) ?_
        rintro _ _ ⟨rfl, rfl⟩
        refine ⟨(fun _ h => nomatch h), (allc (trivial) (fun _ h => nomatch h)), AOps_as 12 (v' := bV (spec_l01In p0.k 1 4)) (H' := []) rfl rfl ?_⟩
        refine AOps_q 13 _ rfl rfl rfl (QOp_not _ _ _ rfl rfl) ?_
        refine AOps_q 14 _ rfl rfl rfl (QOp_pick_f _ _ _ _ rfl rfl rfl) ?_
        refine AOps_nil ?_
        cases h
        exact Weak_keep 0 hm [1, 14] [] _ _ rfl rfl rfl
    intro E' H' hw
    refine ACode_weak hw ?_
    have h := hks4
    refine ACode_cond _ rfl (fun hb5 => ?_) (fun hb5 => ?_)
    · have h := iteT hb5 h
      refine ACode_seq (ACode_region ?_)
      refine AOps_q 2 _ rfl rfl rfl (QOp_assign _ _ rfl rfl) ?_
      refine AOps_nil ?_
      refine ACode_ret ?_
      cases h
      have h := hks6
      cases h
      exact ⟨_, _, fun r a w h => ⟨r, h⟩, _, _, [], _, (.cons (ResV_tmp _ _ rfl) .nil), rfl, rfl, rfl, rfl, rfl⟩
    · have h := iteF hb5 h
      refine ACode_skip ?_
      cases h
      exact ⟨_, rfl, Weak_keep 0 hm [1] [] _ _ rfl rfl rfl⟩
  rintro E' H' ⟨s6, rfl, hw⟩
  refine ACode_weak hw ?_
  have h := hks6
  refine ACode_seq (ACode_region ?_)
  refine AOps_q 15 _ rfl rfl rfl (QOp_fieldAddr_pv _ _ _ _ _ 0 _ _ rfl Try.underlying26 rfl _ Try.sizeOf2 rfl rfl) ?_
  refine AOps_q 16 _ rfl rfl rfl (QOp_load_pv _ _ _ _ _ rfl Try.isAgg2 rfl rfl) ?_
  refine AOps_q 17 _ rfl rfl rfl (QOp_fieldAddr_pv _ _ _ _ _ 0 _ _ rfl Try.underlying26 rfl _ Try.sizeOf2 rfl rfl) ?_
  refine AOps_q 18 _ rfl rfl rfl (QOp_load_pv _ _ _ _ _ rfl Try.isAgg2 rfl rfl) ?_
  refine AOps_q 19 _ rfl rfl rfl (QOp_sub _ _ _ _ _ _ _ rfl rfl rfl) ?_
  refine AOps_q 20 _ rfl rfl rfl (QOp_mul _ _ _ _ _ _ _ rfl rfl rfl) ?_
  refine AOps_q 21 _ rfl rfl rfl (QOp_quo _ _ _ _ _ _ _ (by decide) rfl rfl rfl) ?_
  refine AOps_q 3 _ rfl rfl rfl (QOp_assign _ _ rfl rfl) ?_
  refine AOps_nil ?_
  obtain ⟨os19, hss19, hks19⟩ := bindO h
  clear h
  refine ACode_seqJ (fun E' H' => ∃ s19 : Unit, os19 = .inl s19 ∧ Weak 51 G E' H' [] []) ?_ ?_
  · have h := hss19
    clear hss19
    refine ACode_seq (ACode_region ?_)
    refine AOps_q 4 _ rfl rfl rfl (QOp_assign _ _ rfl rfl) ?_
    refine AOps_nil ?_
    refine ACode_block ?_
    refine ACode_loopW (fun k0 E H => ∃ (x7 : Int), E = [(1, .d (.pv (colD p0) 0)), (3, iV (w64 ((w64 (p0.p * (w64 (p0.p - 1)))).tdiv 2))), (4, iV x7)] ∧ H = [] ∧ spec_l01Is_l0 k p0 k0 x7 = some os19) k _ _ (Weak_keep 0 hm [1, 3, 4] [] _ _ rfl rfl rfl) ⟨_, rfl, rfl, h⟩ ?_
    clear h
    rintro k0 E H ⟨x7, rfl, rfl, h⟩
    cases k0 with
    | zero => cases (show (none : Option (Sum (Unit) (Bool))) = some _ from h)
    | succ k0 =>
      rw [spec_l01Is_l0] at h
      refine ACode_seq ?_
      refine ACode_seq (ACode_region ?_)
      refine AOps_q 22 _ rfl rfl rfl (QOp_move _ _ rfl rfl) ?_
      refine AOps_q 23 _ rfl rfl rfl (QOp_lss _ _ _ _ _ _ _ rfl rfl rfl) ?_
      refine AOps_nil ?_
      refine ACode_cond _ rfl (fun hb8 => ?_) (fun hb8 => ?_)
      · have h := iteT hb8 h
        refine ACode_skip ?_
        obtain ⟨os18, hss18, hks18⟩ := bindO h
        clear h
        refine ACode_seqJ (fun E' H' => ∃ s18 : Unit, os18 = .inl s18 ∧ Weak 51 G E' H' [(1, .d (.pv (colD p0) 0)), (3, iV (w64 ((w64 (p0.p * (w64 (p0.p - 1)))).tdiv 2))), (4, iV x7)] []) ?_ ?_
        · have h := hss18
          clear hss18
          refine ACode_block ?_
          obtain ⟨s16, hss16, hks16⟩ := bindO h
          clear h
          refine ACode_seqJ (fun E' H' => Weak 51 G E' H' [(1, .d (.pv (colD p0) 0)), (3, iV (w64 ((w64 (p0.p * (w64 (p0.p - 1)))).tdiv 2))), (4, iV x7), (50, bV s16)] []) ?_ ?_
          · have h := hss16
            clear hss16
            refine (ACode_quiet mixed (by kernel_rfl) ?_)
            refine AQ_q 26 _ rfl rfl rfl (QOp_move _ _ rfl rfl) ?_
            refine AQ_q 27 _ rfl rfl rfl (QOp_move _ _ rfl rfl) ?_
            refine AQ_q 28 _ rfl rfl rfl (QOp_lss _ _ _ _ _ _ _ rfl rfl rfl) ?_
            refine AQ_q 29 _ rfl rfl rfl (QOp_move _ _ rfl rfl) ?_
            refine AQ_case 29 _ rfl (fun hb9 => ?_) (fun hb9 => ?_)
            · have h := iteT hb9 h
              refine AQ_q 30 _ rfl rfl rfl (QOp_move _ _ rfl rfl) ?_
              refine AQ_q 31 _ rfl rfl rfl (QOp_fieldAddr_pv _ _ _ _ _ 2 _ _ rfl Try.underlying26 rfl _ Try.sizeOf24 rfl rfl) ?_
              obtain ⟨hc10, h⟩ := guardO h
              refine AQ_q 32 _ rfl rfl rfl (QOp_indexAddrA_pv _ _ _ _ _ _ _ _ _ rfl Try.underlying24 Try.sizeOf5 hc10.1 hc10.2 rfl rfl) ?_
              refine AQ_q 33 _ rfl rfl rfl (QOp_load_pv _ _ _ _ _ rfl Try.isAgg5 rfl (colD_get _ _ (by omega))) ?_
              refine AQ_q 34 _ rfl rfl rfl (QOp_fromByte _ _ _ _ _ rfl rfl Try.underlying2 wrap_i64_byte rfl) ?_
              refine AQ_q 35 _ rfl rfl rfl (QOp_fieldAddr_pv _ _ _ _ _ 1 _ _ rfl Try.underlying26 rfl _ Try.sizeOf2 rfl rfl) ?_
              refine AQ_q 36 _ rfl rfl rfl (QOp_load_pv _ _ _ _ _ rfl Try.isAgg2 rfl rfl) ?_
              refine AQ_q 37 _ rfl rfl rfl (QOp_geq _ _ _ _ _ _ _ rfl rfl rfl) ?_
              refine AQ_q 38 _ rfl rfl rfl (QOp_pick_t _ _ _ _ rfl rfl rfl) ?_
              refine AQ_q 39 _ rfl rfl rfl (QOp_move _ _ rfl rfl) ?_
              refine AQ_case 39 _ rfl (fun hb11 => ?_) (fun hb11 => ?_)
              · have h := iteT hb11 h
                refine AQ_skip 40 rfl rfl rfl ?_
                refine AQ_skip 41 rfl rfl rfl ?_
                refine AQ_skip 42 rfl rfl rfl ?_
                refine AQ_skip 43 rfl rfl rfl ?_
                refine AQ_skip 44 rfl rfl rfl ?_
                refine AQ_skip 45 rfl rfl rfl ?_
                refine AQ_skip 46 rfl rfl rfl ?_
                refine AQ_skip 47 rfl rfl rfl ?_
                refine AQ_skip 48 rfl rfl rfl ?_
                refine AQ_skip 49 rfl rfl rfl ?_
                refine AQ_q 50 _ rfl rfl rfl (QOp_pick_t _ _ _ _ rfl rfl rfl) ?_
                refine AQ_nil ?_
                cases h
                exact Weak_keep 0 hm [1, 3, 4, 50] [] _ _ rfl rfl rfl
              · have h := iteF hb11 h
                refine AQ_q 40 _ rfl rfl rfl (QOp_move _ _ rfl rfl) ?_
                refine AQ_q 41 _ rfl rfl rfl (QOp_move _ _ rfl rfl) ?_
                refine AQ_q 42 _ rfl rfl rfl (QOp_geq _ _ _ _ _ _ _ rfl rfl rfl) ?_
                refine AQ_q 43 _ rfl rfl rfl (QOp_move _ _ rfl rfl) ?_
                refine AQ_case 43 _ rfl (fun hb12 => ?_) (fun hb12 => ?_)
                · have h := iteT hb12 h
                  refine AQ_q 44 _ rfl rfl rfl (QOp_move _ _ rfl rfl) ?_
                  refine AQ_q 45 _ rfl rfl rfl (QOp_fieldAddr_pv _ _ _ _ _ 2 _ _ rfl Try.underlying26 rfl _ Try.sizeOf24 rfl rfl) ?_
                  obtain ⟨hc13, h⟩ := guardO h
                  refine AQ_q 46 _ rfl rfl rfl (QOp_indexAddrA_pv _ _ _ _ _ _ _ _ _ rfl Try.underlying24 Try.sizeOf5 hc13.1 hc13.2 rfl rfl) ?_
                  refine AQ_q 47 _ rfl rfl rfl (QOp_load_pv _ _ _ _ _ rfl Try.isAgg5 rfl (colD_get _ _ (by omega))) ?_
                  refine AQ_q 48 _ rfl rfl rfl (QOp_neq _ _ _ _ _ _ _ rfl rfl rfl) ?_
                  refine AQ_q 49 _ rfl rfl rfl (QOp_pick_t _ _ _ _ rfl rfl rfl) ?_
                  refine AQ_q 50 _ rfl rfl rfl (QOp_pick_f _ _ _ _ rfl rfl rfl) ?_
                  refine AQ_nil ?_
                  cases h
                  exact Weak_keep 0 hm [1, 3, 4, 50] [] _ _ rfl rfl rfl
                · have h := iteF hb12 h
                  refine AQ_skip 44 rfl rfl rfl ?_
                  refine AQ_skip 45 rfl rfl rfl ?_
                  refine AQ_skip 46 rfl rfl rfl ?_
                  refine AQ_skip 47 rfl rfl rfl ?_
                  refine AQ_skip 48 rfl rfl rfl ?_
                  refine AQ_q 49 _ rfl rfl rfl (QOp_pick_f _ _ _ _ rfl rfl rfl) ?_
                  refine AQ_q 50 _ rfl rfl rfl (QOp_pick_f _ _ _ _ rfl rfl rfl) ?_
                  refine AQ_nil ?_
                  cases h
                  exact Weak_keep 0 hm [1, 3, 4, 50] [] _ _ rfl rfl rfl
            · have h := iteF hb9 h
              refine AQ_skip 30 rfl rfl rfl ?_
              refine AQ_skip 31 rfl rfl rfl ?_
              refine AQ_skip 32 rfl rfl rfl ?_
              refine AQ_skip 33 rfl rfl rfl ?_
              refine AQ_skip 34 rfl rfl rfl ?_
              refine AQ_skip 35 rfl rfl rfl ?_
              refine AQ_skip 36 rfl rfl rfl ?_
              refine AQ_skip 37 rfl rfl rfl ?_
              refine AQ_q 38 _ rfl rfl rfl (QOp_pick_f _ _ _ _ rfl rfl rfl) ?_
              refine AQ_q 39 _ rfl rfl rfl (QOp_move _ _ rfl rfl) ?_
              refine AQ_q 40 _ rfl rfl rfl (QOp_move _ _ rfl rfl) ?_
              refine AQ_q 41 _ rfl rfl rfl (QOp_move _ _ rfl rfl) ?_
              refine AQ_q 42 _ rfl rfl rfl (QOp_geq _ _ _ _ _ _ _ rfl rfl rfl) ?_
              refine AQ_q 43 _ rfl rfl rfl (QOp_move _ _ rfl rfl) ?_
              refine AQ_case 43 _ rfl (fun hb14 => ?_) (fun hb14 => ?_)
              · have h := iteT hb14 h
                refine AQ_q 44 _ rfl rfl rfl (QOp_move _ _ rfl rfl) ?_
                refine AQ_q 45 _ rfl rfl rfl (QOp_fieldAddr_pv _ _ _ _ _ 2 _ _ rfl Try.underlying26 rfl _ Try.sizeOf24 rfl rfl) ?_
                obtain ⟨hc15, h⟩ := guardO h
                refine AQ_q 46 _ rfl rfl rfl (QOp_indexAddrA_pv _ _ _ _ _ _ _ _ _ rfl Try.underlying24 Try.sizeOf5 hc15.1 hc15.2 rfl rfl) ?_
                refine AQ_q 47 _ rfl rfl rfl (QOp_load_pv _ _ _ _ _ rfl Try.isAgg5 rfl (colD_get _ _ (by omega))) ?_
                refine AQ_q 48 _ rfl rfl rfl (QOp_neq _ _ _ _ _ _ _ rfl rfl rfl) ?_
                refine AQ_q 49 _ rfl rfl rfl (QOp_pick_t _ _ _ _ rfl rfl rfl) ?_
                refine AQ_q 50 _ rfl rfl rfl (QOp_pick_f _ _ _ _ rfl rfl rfl) ?_
                refine AQ_nil ?_
                cases h
                exact Weak_keep 0 hm [1, 3, 4, 50] [] _ _ rfl rfl rfl
              · have h := iteF hb14 h
                refine AQ_skip 44 rfl rfl rfl ?_
                refine AQ_skip 45 rfl rfl rfl ?_
                refine AQ_skip 46 rfl rfl rfl ?_
                refine AQ_skip 47 rfl rfl rfl ?_
                refine AQ_skip 48 rfl rfl rfl ?_
                refine AQ_q 49 _ rfl rfl rfl (QOp_pick_f _ _ _ _ rfl rfl rfl) ?_
                refine AQ_q 50 _ rfl rfl rfl (QOp_pick_f _ _ _ _ rfl rfl rfl) ?_
                refine AQ_nil ?_
                cases h
                exact Weak_keep 0 hm [1, 3, 4, 50] [] _ _ rfl rfl rfl
          intro E' H' hw
          refine ACode_weak hw ?_
          have h := hks16
          refine ACode_cond _ rfl (fun hb17 => ?_) (fun hb17 => ?_)
          · have h := iteT hb17 h
            refine ACode_seq (ACode_region ?_)
            refine AOps_q 2 _ rfl rfl rfl (QOp_assign _ _ rfl rfl) ?_
            refine AOps_nil ?_
            refine ACode_ret ?_
            obtain ⟨rr, hz20, h2⟩ := bindO h
            obtain rfl := Option.some.inj h2
            obtain rfl := Option.some.inj (show some rr = some _ from hks18)
            have h := hz20
            cases h
            have h := hks19
            cases h
            exact ⟨_, _, fun r a w h => ⟨r, h⟩, _, _, [], _, (.cons (ResV_tmp _ _ rfl) .nil), rfl, rfl, rfl, rfl, rfl⟩
          · have h := iteF hb17 h
            refine ACode_skip ?_
            cases h
            exact ⟨_, rfl, Weak_keep 0 hm [1, 3, 4] [] _ _ rfl rfl rfl⟩
        rintro E' H' ⟨s18, rfl, hw⟩
        refine ACode_weak hw ?_
        have h := hks18
        refine (ACode_region ?_)
        refine AOps_q 24 _ rfl rfl rfl (QOp_move _ _ rfl rfl) ?_
        refine AOps_q 25 _ rfl rfl rfl (QOp_add _ _ _ _ _ _ _ rfl rfl rfl) ?_
        refine AOps_q 4 _ rfl rfl rfl (QOp_assign _ _ rfl rfl) ?_
        refine AOps_nil ?_
        exact ⟨k0, _, _, Nat.lt_succ_self _, Weak_keep 0 hm [1, 3, 4] [] _ _ rfl rfl rfl, _, rfl, rfl, h⟩
      · have h := iteF hb8 h
        refine ACode_exit ?_
        cases h
        exact ⟨_, rfl, Weak_keep 0 hm [] [] _ _ rfl rfl rfl⟩
  rintro E' H' ⟨s19, rfl, hw⟩
  refine ACode_weak hw ?_
  have h := hks19
  refine ACode_seq (ACode_region ?_)
  refine AOps_q 2 _ rfl rfl rfl (QOp_assign _ _ rfl rfl) ?_
  refine AOps_nil ?_
  refine ACode_ret ?_
  cases h
  exact ⟨_, _, fun r a w h => ⟨r, h⟩, _, _, [], _, (.cons (ResV_tmp _ _ rfl) .nil), rfl, rfl, rfl, rfl, rfl⟩

-- loop.example/g01362/spec.l01All
def spec_l01All_l0 (p0 : List Int) (p1 : Int) : Nat → Int → Option (Sum (Unit) (Bool))
  | 0, _ => none
  | k0 + 1, x1 => (if decide (x1 < (p0.length : Int)) then (if 0 ≤ x1 ∧ x1 < (p0.length : Int) then (if !(spec_l01In (p0.getD x1.toNat 0) 0 (w64 (p1 - 1))) then some (.inr false) else spec_l01All_l0 p0 p1 k0 (w64 (x1 + 1))) else none) else some (.inl ()))
def spec_l01All (k : Nat) (p0 : List Int) (p1 : Int) : Option (Bool) :=
  (spec_l01All_l0 p0 p1 k 0 : Option (Sum (Unit) (Bool))).bind fun os6 => (match os6 with | .inl s6 => some true | .inr rr => some rr)
set_option maxRecDepth 100000 in
theorem spec_l01All_ac (k : Nat) (p0 : List Int) (p1 : Int) (r : Bool) (h : spec_l01All k p0 p1 = some r) : AC Try.prog 110 [.d (.sl none (intsD p0)), iV p1] [] (fun res H' => res = [bV r] ∧ H' = []) := by
  refine AC_of_body true Try.func110 rfl Try.ntmps110 (rvs := [.tmp 4]) rfl rfl (fun G hG => ?_)
  have hm : G.H.length = 0 := by rw [hG]; rfl
  have hz : zeroG G.H = true := by rw [hG]; rfl
  unfold spec_l01All at h
  refine ACode_seq (ACode_region ?_)
  refine AOps_q 4 _ rfl rfl rfl (QOp_assign _ _ rfl rfl) ?_
  refine AOps_nil ?_
  obtain ⟨os6, hss6, hks6⟩ := bindO h
  clear h
  refine ACode_seqJ (fun E' H' => ∃ s6 : Unit, os6 = .inl s6 ∧ Weak 20 G E' H' [] []) ?_ ?_
  · have h := hss6
    clear hss6
    refine ACode_seq (ACode_region ?_)
    refine AOps_q 5 _ rfl rfl rfl (QOp_assign _ _ rfl rfl) ?_
    refine AOps_nil ?_
    refine ACode_block ?_
    refine ACode_loopW (fun k0 E H => ∃ (x1 : Int), E = [(0, .d (.sl none (intsD p0))), (1, iV p1), (5, iV x1)] ∧ H = [] ∧ spec_l01All_l0 p0 p1 k0 x1 = some os6) k _ _ (Weak_keep 0 hm [0, 1, 5] [] _ _ rfl rfl rfl) ⟨_, rfl, rfl, h⟩ ?_
    clear h
    rintro k0 E H ⟨x1, rfl, rfl, h⟩
    cases k0 with
    | zero => cases (show (none : Option (Sum (Unit) (Bool))) = some _ from h)
    | succ k0 =>
      rw [spec_l01All_l0] at h
      refine ACode_seq ?_
      refine ACode_seq (ACode_region ?_)
      refine AOps_q 6 _ rfl rfl rfl (QOp_move _ _ rfl rfl) ?_
      refine AOps_q 7 _ rfl rfl rfl (QOp_move _ _ rfl rfl) ?_
      refine AOps_q 8 _ rfl rfl rfl (QOp_len_sl _ _ _ _ _ _ _ (intsD_length _) rfl rfl rfl rfl Try.underlying29 rfl) ?_
      refine AOps_q 9 _ rfl rfl rfl (QOp_lss _ _ _ _ _ _ _ rfl rfl rfl) ?_
      refine AOps_nil ?_
      refine ACode_cond _ rfl (fun hb2 => ?_) (fun hb2 => ?_)
      · have h := iteT hb2 h
        refine ACode_skip ?_
        refine ACode_seq ?_
        refine ACode_block ?_
        refine ACode_seq (ACode_region ?_)
        refine AOps_q 12 _ rfl rfl rfl (QOp_move _ _ rfl rfl) ?_
        refine AOps_q 13 _ rfl rfl rfl (QOp_move _ _ rfl rfl) ?_
        obtain ⟨hc3, h⟩ := guardO h
        refine AOps_q 14 _ rfl rfl rfl (QOp_indexAddr_sl _ _ _ _ _ _ _ _ rfl Try.underlying29 Try.sizeOf2 hc3.1 (by rw [intsD_length]; exact hc3.2) rfl rfl) ?_
        refine AOps_q 15 _ rfl rfl rfl (QOp_load_pv _ _ _ _ _ rfl Try.isAgg2 rfl (intsD_get _ _ 0 (by omega))) ?_
        refine AOps_q 16 _ rfl rfl rfl (QOp_move _ _ rfl rfl) ?_
        refine AOps_q 17 _ rfl rfl rfl (QOp_sub _ _ _ _ _ _ _ rfl rfl rfl) ?_
        refine AOps_call [] 18 _ _ _ _ _ _ _ _ _ _ rfl rfl rfl rfl rfl rfl rfl Try.call66 rfl (nodupB_sound _ rfl) rfl rfl rfl (spec_l01In_ac (p0.getD x1.toNat 0) 0 (w64 (p1 - 1))) ?_
        rintro _ _ ⟨rfl, rfl⟩
        refine ⟨(fun _ h => nomatch h), (allc (trivial) (fun _ h => nomatch h)), AOps_as 18 (v' := bV (spec_l01In (p0.getD x1.toNat 0) 0 (w64 (p1 - 1)))) (H' := []) rfl rfl ?_⟩
        refine AOps_q 19 _ rfl rfl rfl (QOp_not _ _ _ rfl rfl) ?_
        refine AOps_nil ?_
        refine ACode_cond _ rfl (fun hb5 => ?_) (fun hb5 => ?_)
        · have h := iteT hb5 h
          refine ACode_seq (ACode_region ?_)
          refine AOps_q 4 _ rfl rfl rfl (QOp_assign _ _ rfl rfl) ?_
          refine AOps_nil ?_
          refine ACode_ret ?_
          cases h
          have h := hks6
          cases h
          exact ⟨_, _, fun r a w h => ⟨r, h⟩, _, _, [], _, (.cons (ResV_tmp _ _ rfl) .nil), rfl, rfl, rfl, rfl, rfl⟩
        · have h := iteF hb5 h
          refine ACode_skip ?_
          refine (ACode_region ?_)
          refine AOps_q 10 _ rfl rfl rfl (QOp_move _ _ rfl rfl) ?_
          refine AOps_q 11 _ rfl rfl rfl (QOp_add _ _ _ _ _ _ _ rfl rfl rfl) ?_
          refine AOps_q 5 _ rfl rfl rfl (QOp_assign _ _ rfl rfl) ?_
          refine AOps_nil ?_
          exact ⟨k0, _, _, Nat.lt_succ_self _, Weak_keep 0 hm [0, 1, 5] [] _ _ rfl rfl rfl, _, rfl, rfl, h⟩
      · have h := iteF hb2 h
        refine ACode_exit ?_
        cases h
        exact ⟨_, rfl, Weak_keep 0 hm [] [] _ _ rfl rfl rfl⟩
  rintro E' H' ⟨s6, rfl, hw⟩
  refine ACode_weak hw ?_
  have h := hks6
  refine ACode_seq (ACode_region ?_)
  refine AOps_q 4 _ rfl rfl rfl (QOp_assign _ _ rfl rfl) ?_
  refine AOps_nil ?_
  refine ACode_ret ?_
  cases h
  exact ⟨_, _, fun r a w h => ⟨r, h⟩, _, _, [], _, (.cons (ResV_tmp _ _ rfl) .nil), rfl, rfl, rfl, rfl, rfl⟩

-- loop.example/g01362/spec.l01Given
def spec_l01Given (k : Nat) (p0 : Col) (p1 : Int) (p2 : List Int) : Option (Int) :=
  ((spec_l01Is k p0).bind fun r1 => (if !r1 then some (.inr 1) else ((if !(spec_l01In p1 0 (w64 (p0.k - 1))) then some true else (spec_l01All k p2 p0.p).bind fun r5 => some (!r5)) : Option (Bool)).bind fun s6 => (if s6 then some (.inr 2) else some (.inl ()))) : Option (Sum (Unit) (Int))).bind fun os8 => (match os8 with | .inl s8 => some 0 | .inr rr => some rr)
set_option maxRecDepth 100000 in
theorem spec_l01Given_ac (k : Nat) (p0 : Col) (p1 : Int) (p2 : List Int) (r : Int) (h : spec_l01Given k p0 p1 p2 = some r) : AC Try.prog 52 [.d (.agg (colD p0)), iV p1, .d (.sl none (intsD p2))] [] (fun res H' => res = [iV r] ∧ H' = []) := by
  refine AC_of_body true Try.func52 rfl Try.ntmps52 (rvs := [.tmp 6]) rfl rfl (fun G hG => ?_)
  have hm : G.H.length = 0 := by rw [hG]; rfl
  have hz : zeroG G.H = true := by rw [hG]; rfl
  unfold spec_l01Given at h
  refine ACode_seq (ACode_region ?_)
  refine AOps_boxI 3 _ _ (.agg (colD p0)) (colD p0) rfl (colD_one _) rfl rfl rfl rfl rfl ?_
  refine AOps_q 6 _ rfl rfl rfl (QOp_assign _ _ rfl rfl) ?_
  refine AOps_nil ?_
  obtain ⟨os8, hss8, hks8⟩ := bindO h
  clear h
  refine ACode_seqJ (fun E' H' => ∃ s8 : Unit, os8 = .inl s8 ∧ Weak 25 G E' H' [] []) ?_ ?_
  · have h := hss8
    clear hss8
    refine ACode_block ?_
    refine ACode_seq (ACode_region ?_)
    refine AOps_q 8 _ rfl rfl rfl (QOp_loadN_pv _ _ _ _ _ _ rfl Try.isAgg26 Try.sizeOf26 rfl (colD_all _) (colD_length _)) ?_
    obtain ⟨r1, hr1, h⟩ := bindO h
    refine AOps_call [] 9 _ _ _ _ _ _ _ _ _ _ rfl rfl rfl rfl rfl rfl rfl Try.call72 rfl (nodupB_sound _ rfl) rfl rfl rfl (spec_l01Is_ac k p0 _ hr1) ?_
    rintro _ _ ⟨rfl, rfl⟩
    refine ⟨(fun _ h => nomatch h), (allc (trivial) (fun _ h => nomatch h)), AOps_as 9 (v' := bV r1) (H' := []) rfl rfl ?_⟩
    refine AOps_q 10 _ rfl rfl rfl (QOp_not _ _ _ rfl rfl) ?_
    refine AOps_q 7 _ rfl rfl rfl (QOp_assign _ _ rfl rfl) ?_
    refine AOps_nil ?_
    refine ACode_cond _ rfl (fun hb2 => ?_) (fun hb2 => ?_)
    · have h := iteT hb2 h
      refine ACode_seq (ACode_region ?_)
      refine AOps_q 6 _ rfl rfl rfl (QOp_assign _ _ rfl rfl) ?_
      refine AOps_nil ?_
      refine ACode_ret ?_
      cases h
      have h := hks8
      cases h
      exact ⟨_, _, fun r a w h => ⟨r, h⟩, _, _, [], _, (.cons (ResV_tmp _ _ rfl) .nil), rfl, rfl, rfl, rfl, rfl⟩
    · have h := iteF hb2 h
      obtain ⟨s6, hss6, hks6⟩ := bindO h
      clear h
      refine ACode_seqJ (fun E' H' => Weak 25 G E' H' [(11, bV s6)] []) ?_ ?_
      · have h := hss6
        clear hss6
        refine (ACode_region ?_)
        refine AOps_q 12 _ rfl rfl rfl (QOp_move _ _ rfl rfl) ?_
        refine AOps_q 13 _ rfl rfl rfl (QOp_fieldAddr_pv _ _ _ _ _ 1 _ _ rfl Try.underlying26 rfl _ Try.sizeOf2 rfl rfl) ?_
        refine AOps_q 14 _ rfl rfl rfl (QOp_load_pv _ _ _ _ _ rfl Try.isAgg2 rfl rfl) ?_
        refine AOps_q 15 _ rfl rfl rfl (QOp_sub _ _ _ _ _ _ _ rfl rfl rfl) ?_
        refine AOps_call [] 16 _ _ _ _ _ _ _ _ _ _ rfl rfl rfl rfl rfl rfl rfl Try.call66 rfl (nodupB_sound _ rfl) rfl rfl rfl (spec_l01In_ac p1 0 (w64 (p0.k - 1))) ?_
        rintro _ _ ⟨rfl, rfl⟩
        refine ⟨(fun _ h => nomatch h), (allc (trivial) (fun _ h => nomatch h)), AOps_as 16 (v' := bV (spec_l01In p1 0 (w64 (p0.k - 1)))) (H' := []) rfl rfl ?_⟩
        refine AOps_q 17 _ rfl rfl rfl (QOp_not _ _ _ rfl rfl) ?_
        refine AOps_q 18 _ rfl rfl rfl (QOp_move _ _ rfl rfl) ?_
        refine AOps_case 18 _ rfl (fun hb4 => ?_) (fun hb4 => ?_)
        · have h := iteT hb4 h
          refine AOps_skip 19 rfl rfl rfl ?_
          refine AOps_skip 20 rfl rfl rfl ?_
          refine AOps_skip 21 rfl rfl rfl ?_
          refine AOps_skip 22 rfl rfl rfl ?_
          refine AOps_skip 23 rfl rfl rfl ?_
          refine AOps_q 24 _ rfl rfl rfl (QOp_pick_t _ _ _ _ rfl rfl rfl) ?_
          refine AOps_q 11 _ rfl rfl rfl (QOp_assign _ _ rfl rfl) ?_
          refine AOps_nil ?_
          cases h
          exact Weak_keep 0 hm [11] [] _ _ rfl rfl rfl
        · have h := iteF hb4 h
          refine AOps_q 19 _ rfl rfl rfl (QOp_move _ _ rfl rfl) ?_
          refine AOps_q 20 _ rfl rfl rfl (QOp_fieldAddr_pv _ _ _ _ _ 0 _ _ rfl Try.underlying26 rfl _ Try.sizeOf2 rfl rfl) ?_
          refine AOps_q 21 _ rfl rfl rfl (QOp_load_pv _ _ _ _ _ rfl Try.isAgg2 rfl rfl) ?_
          obtain ⟨r5, hr5, h⟩ := bindO h
          refine AOps_call [] 22 _ _ _ _ _ _ _ _ _ _ rfl rfl rfl rfl rfl rfl rfl Try.call110 rfl (nodupB_sound _ rfl) rfl rfl rfl (spec_l01All_ac k p2 p0.p _ hr5) ?_
          rintro _ _ ⟨rfl, rfl⟩
          refine ⟨(fun _ h => nomatch h), (allc (trivial) (fun _ h => nomatch h)), AOps_as 22 (v' := bV r5) (H' := []) rfl rfl ?_⟩
          refine AOps_q 23 _ rfl rfl rfl (QOp_not _ _ _ rfl rfl) ?_
          refine AOps_q 24 _ rfl rfl rfl (QOp_pick_f _ _ _ _ rfl rfl rfl) ?_
          refine AOps_q 11 _ rfl rfl rfl (QOp_assign _ _ rfl rfl) ?_
          refine AOps_nil ?_
          cases h
          exact Weak_keep 0 hm [11] [] _ _ rfl rfl rfl
      intro E' H' hw
      refine ACode_weak hw ?_
      have h := hks6
      refine ACode_cond _ rfl (fun hb7 => ?_) (fun hb7 => ?_)
      · have h := iteT hb7 h
        refine ACode_seq (ACode_region ?_)
        refine AOps_q 6 _ rfl rfl rfl (QOp_assign _ _ rfl rfl) ?_
        refine AOps_nil ?_
        refine ACode_ret ?_
        cases h
        have h := hks8
        cases h
        exact ⟨_, _, fun r a w h => ⟨r, h⟩, _, _, [], _, (.cons (ResV_tmp _ _ rfl) .nil), rfl, rfl, rfl, rfl, rfl⟩
      · have h := iteF hb7 h
        refine ACode_skip ?_
        cases h
        exact ⟨_, rfl, Weak_keep 0 hm [] [] _ _ rfl rfl rfl⟩
  rintro E' H' ⟨s8, rfl, hw⟩
  refine ACode_weak hw ?_
  have h := hks8
  refine ACode_seq (ACode_region ?_)
  refine AOps_q 6 _ rfl rfl rfl (QOp_assign _ _ rfl rfl) ?_
  refine AOps_nil ?_
  refine ACode_ret ?_
  cases h
  exact ⟨_, _, fun r a w h => ⟨r, h⟩, _, _, [], _, (.cons (ResV_tmp _ _ rfl) .nil), rfl, rfl, rfl, rfl, rfl⟩

-- loop.example/g01362/spec.l10Ups
def spec_l10Ups_l1 (p0 : Col) (p1 : Int) (x2 : Int) : Nat → Int → (List Int) → Option (List Int)
  | 0, _, _ => none
  | k1 + 1, x6, x7 => (if decide (x6 < p0.p) then ((spec_l01At p0 x2 x6).bind fun r9 => (if decide (r9 = p1) then (if 0 ≤ x2 ∧ x2 < (x7.length : Int) then (if 0 ≤ x6 ∧ x6 < (x7.length : Int) then (if 0 ≤ x2 ∧ x2 < (x7.length : Int) then some (x7.set x2.toNat (if (x7.getD x2.toNat 0) < w64 ((x7.getD x6.toNat 0) + 1) then w64 ((x7.getD x6.toNat 0) + 1) else (x7.getD x2.toNat 0))) else none) else none) else none) else some x7) : Option (List Int)).bind fun s14 => spec_l10Ups_l1 p0 p1 x2 k1 (w64 (x6 + 1)) s14 else some x7)
def spec_l10Ups_l0 (k : Nat) (p0 : Col) (p1 : Int) : Nat → Int → (List Int) → Option (List Int)
  | 0, _, _ => none
  | k0 + 1, x2, x3 => (if decide (0 ≤ x2) then ((if 0 ≤ x2 ∧ x2 < (x3.length : Int) then spec_l10Ups_l1 p0 p1 x2 k (w64 (x2 + 1)) (x3.set x2.toNat 1) else none) : Option (List Int)).bind fun s15 => spec_l10Ups_l0 k p0 p1 k0 (w64 (x2 - 1)) s15 else some x3)
def spec_l10Ups (k : Nat) (p0 : Col) (p1 : Int) : Option (List Int) :=
  (if 0 ≤ p0.p ∧ p0.p ≤ p0.p ∧ p0.p ≤ 1099511627776 then (spec_l10Ups_l0 k p0 p1 k (w64 (p0.p - 1)) (List.replicate p0.p.toNat (0 : Int)) : Option (List Int)).bind fun s16 => some s16 else none)
set_option maxRecDepth 100000 in
theorem spec_l10Ups_ac (k : Nat) (p0 : Col) (p1 : Int) (r : List Int) (h : spec_l10Ups k p0 p1 = some r) : AC Try.prog 111 [.d (.agg (colD p0)), iV p1] [] (fun res H' => res = [.vec 0 0] ∧ H' = [.vec 0 (intsD r)]) := by
  refine AC_of_body true Try.func111 rfl Try.ntmps111 (rvs := [.tmp 4]) rfl rfl (fun G hG => ?_)
  have hm : G.H.length = 0 := by rw [hG]; rfl
  have hz : zeroG G.H = true := by rw [hG]; rfl
  unfold spec_l10Ups at h
  refine ACode_seq (ACode_region ?_)
  refine AOps_boxI 2 _ _ (.agg (colD p0)) (colD p0) rfl (colD_one _) rfl rfl rfl rfl rfl ?_
  refine AOps_q 4 _ rfl rfl rfl (QOp_assign _ _ rfl rfl) ?_
  refine AOps_nil ?_
  refine ACode_seq (ACode_region ?_)
  refine AOps_q 8 _ rfl rfl rfl (QOp_fieldAddr_pv _ _ _ _ _ 0 _ _ rfl Try.underlying26 rfl _ Try.sizeOf2 rfl rfl) ?_
  refine AOps_q 9 _ rfl rfl rfl (QOp_load_pv _ _ _ _ _ rfl Try.isAgg2 rfl rfl) ?_
  obtain ⟨hc1, h⟩ := guardO h
  refine AOps_makeSliceG intsD iD 0 (intsD_rep · _) 10 _ _ _ _ _ _ p0.p p0.p _ (.int .i64 0) rfl rfl rfl rfl rfl rfl Try.underlying29 Try.type2 rfl rfl (by decide) rfl rfl hc1.1 hc1.2.1 hc1.2.2 ?_
  refine AOps_q 5 _ rfl rfl rfl (QOp_assign _ _ rfl rfl) ?_
  refine AOps_nil ?_
  obtain ⟨s16, hss16, hks16⟩ := bindO h
  clear h
  refine ACode_seqJ (fun E' H' => Weak 49 G E' H' [(5, .vec 0 0)] [.vec 0 (intsD s16)]) ?_ ?_
  · have h := hss16
    clear hss16
    refine ACode_seq (ACode_region ?_)
    refine AOps_q 11 _ rfl rfl rfl (QOp_fieldAddr_pv _ _ _ _ _ 0 _ _ rfl Try.underlying26 rfl _ Try.sizeOf2 rfl rfl) ?_
    refine AOps_q 12 _ rfl rfl rfl (QOp_load_pv _ _ _ _ _ rfl Try.isAgg2 rfl rfl) ?_
    refine AOps_q 13 _ rfl rfl rfl (QOp_sub _ _ _ _ _ _ _ rfl rfl rfl) ?_
    refine AOps_q 6 _ rfl rfl rfl (QOp_assign _ _ rfl rfl) ?_
    refine AOps_nil ?_
    refine ACode_block ?_
    refine ACode_loopW (fun k0 E H => ∃ (x2 : Int) (x3 : List Int), E = [(1, iV p1), (2, .d (.pv (colD p0) 0)), (5, .vec 0 0), (6, iV x2)] ∧ H = [.vec 0 (intsD x3)] ∧ spec_l10Ups_l0 k p0 p1 k0 x2 x3 = some s16) k _ _ (Weak_keep 0 hm [1, 2, 5, 6] [0] _ _ rfl rfl rfl) ⟨_, _, rfl, rfl, h⟩ ?_
    clear h
    rintro k0 E H ⟨x2, x3, rfl, rfl, h⟩
    cases k0 with
    | zero => cases (show (none : Option (List Int)) = some _ from h)
    | succ k0 =>
      rw [spec_l10Ups_l0] at h
      refine ACode_seq ?_
      refine ACode_seq (ACode_region ?_)
      refine AOps_q 14 _ rfl rfl rfl (QOp_move _ _ rfl rfl) ?_
      refine AOps_q 15 _ rfl rfl rfl (QOp_geq _ _ _ _ _ _ _ rfl rfl rfl) ?_
      refine AOps_nil ?_
      refine ACode_cond _ rfl (fun hb4 => ?_) (fun hb4 => ?_)
      · have h := iteT hb4 h
        refine ACode_skip ?_
        obtain ⟨s15, hss15, hks15⟩ := bindO h
        clear h
        refine ACode_seqJ (fun E' H' => Weak 49 G E' H' [(1, iV p1), (2, .d (.pv (colD p0) 0)), (5, .vec 0 0), (6, iV x2)] [.vec 0 (intsD s15)]) ?_ ?_
        · have h := hss15
          clear hss15
          refine ACode_block ?_
          refine ACode_seq (ACode_region ?_)
          refine AOps_q 18 _ rfl rfl rfl (QOp_move _ _ rfl rfl) ?_
          refine AOps_q 19 _ rfl rfl rfl (QOp_move _ _ rfl rfl) ?_
          obtain ⟨hc5, h⟩ := guardO h
          refine AOps_q 20 _ rfl rfl rfl (QOp_indexAddr_vec _ _ _ _ _ _ _ _ _ rfl Try.underlying29 Try.sizeOf2 hc5.1 (by rw [intsD_length]; exact hc5.2) rfl rfl rfl) ?_
          refine AOps_store_eptr _ _ _ _ _ _ (intsD x3) _ rfl rfl rfl rfl rfl rfl rfl Try.sizeOf2 (by rw [intsD_length]; omega) ?_
          rw [intsD_set]
          refine AOps_nil ?_
          refine ACode_seq (ACode_region ?_)
          refine AOps_q 21 _ rfl rfl rfl (QOp_move _ _ rfl rfl) ?_
          refine AOps_q 22 _ rfl rfl rfl (QOp_add _ _ _ _ _ _ _ rfl rfl rfl) ?_
          refine AOps_q 7 _ rfl rfl rfl (QOp_assign _ _ rfl rfl) ?_
          refine AOps_nil ?_
          refine ACode_block ?_
          refine ACode_loopW (fun k1 E H => ∃ (x6 : Int) (x7 : List Int), E = [(1, iV p1), (2, .d (.pv (colD p0) 0)), (5, .vec 0 0), (6, iV x2), (7, iV x6)] ∧ H = [.vec 0 (intsD x7)] ∧ spec_l10Ups_l1 p0 p1 x2 k1 x6 x7 = some s15) k _ _ (Weak_keep 0 hm [1, 2, 5, 6, 7] [0] _ _ rfl rfl rfl) ⟨_, _, rfl, rfl, h⟩ ?_
          clear h
          rintro k1 E H ⟨x6, x7, rfl, rfl, h⟩
          cases k1 with
          | zero => cases (show (none : Option (List Int)) = some _ from h)
          | succ k1 =>
            rw [spec_l10Ups_l1] at h
            refine ACode_seq ?_
            refine ACode_seq (ACode_region ?_)
            refine AOps_q 23 _ rfl rfl rfl (QOp_move _ _ rfl rfl) ?_
            refine AOps_q 24 _ rfl rfl rfl (QOp_fieldAddr_pv _ _ _ _ _ 0 _ _ rfl Try.underlying26 rfl _ Try.sizeOf2 rfl rfl) ?_
            refine AOps_q 25 _ rfl rfl rfl (QOp_load_pv _ _ _ _ _ rfl Try.isAgg2 rfl rfl) ?_
            refine AOps_q 26 _ rfl rfl rfl (QOp_lss _ _ _ _ _ _ _ rfl rfl rfl) ?_
            refine AOps_nil ?_
            refine ACode_cond _ rfl (fun hb8 => ?_) (fun hb8 => ?_)
            · have h := iteT hb8 h
              refine ACode_skip ?_
              obtain ⟨s14, hss14, hks14⟩ := bindO h
              clear h
              refine ACode_seqJ (fun E' H' => Weak 49 G E' H' [(1, iV p1), (2, .d (.pv (colD p0) 0)), (5, .vec 0 0), (6, iV x2), (7, iV x6)] [.vec 0 (intsD s14)]) ?_ ?_
              · have h := hss14
                clear hss14
                refine ACode_block ?_
                refine ACode_seq (ACode_region ?_)
                refine AOps_q 29 _ rfl rfl rfl (QOp_loadN_pv _ _ _ _ _ _ rfl Try.isAgg26 Try.sizeOf26 rfl (colD_all _) (colD_length _)) ?_
                refine AOps_q 30 _ rfl rfl rfl (QOp_move _ _ rfl rfl) ?_
                refine AOps_q 31 _ rfl rfl rfl (QOp_move _ _ rfl rfl) ?_
                obtain ⟨r9, hr9, h⟩ := bindO h
                refine AOps_call [] 32 _ _ _ _ _ _ _ _ _ _ rfl rfl rfl rfl rfl rfl rfl Try.call54 rfl (nodupB_sound _ rfl) rfl rfl rfl (spec_l01At_ac p0 x2 x6 _ hr9) ?_
                rintro _ _ ⟨rfl, rfl⟩
                refine ⟨(fun _ h => nomatch h), (allc (trivial) (fun _ h => nomatch h)), AOps_as 32 (v' := iV r9) (H' := [.vec 0 (intsD x7)]) rfl rfl ?_⟩
                refine AOps_q 33 _ rfl rfl rfl (QOp_move _ _ rfl rfl) ?_
                refine AOps_q 34 _ rfl rfl rfl (QOp_eql _ _ _ _ _ _ _ rfl rfl rfl) ?_
                refine AOps_nil ?_
                refine ACode_cond _ rfl (fun hb10 => ?_) (fun hb10 => ?_)
                · have h := iteT hb10 h
                  refine (ACode_last (l := [_, _, _, _, _, _, _, _, _, _, _, _, _]) mixed (by kernel_rfl) (by kernel_rfl) ?_)
                  refine AQ_q 35 _ rfl rfl rfl (QOp_move _ _ rfl rfl) ?_
                  refine AQ_q 36 _ rfl rfl rfl (QOp_move _ _ rfl rfl) ?_
                  refine AQ_q 37 _ rfl rfl rfl (QOp_move _ _ rfl rfl) ?_
                  refine AQ_q 38 _ rfl rfl rfl (QOp_move _ _ rfl rfl) ?_
                  obtain ⟨hc11, h⟩ := guardO h
                  refine AQ_q 39 _ rfl rfl rfl (QOp_indexAddr_vec _ _ _ _ _ _ _ _ _ rfl Try.underlying29 Try.sizeOf2 hc11.1 (by rw [intsD_length]; exact hc11.2) rfl rfl rfl) ?_
                  refine AQ_q 40 _ rfl rfl rfl (QOp_load_eptr _ _ _ _ _ _ _ rfl Try.isAgg2 rfl rfl (intsD_get _ _ 0 (by omega))) ?_
                  refine AQ_q 41 _ rfl rfl rfl (QOp_move _ _ rfl rfl) ?_
                  refine AQ_q 42 _ rfl rfl rfl (QOp_move _ _ rfl rfl) ?_
                  obtain ⟨hc12, h⟩ := guardO h
                  refine AQ_q 43 _ rfl rfl rfl (QOp_indexAddr_vec _ _ _ _ _ _ _ _ _ rfl Try.underlying29 Try.sizeOf2 hc12.1 (by rw [intsD_length]; exact hc12.2) rfl rfl rfl) ?_
                  refine AQ_q 44 _ rfl rfl rfl (QOp_load_eptr _ _ _ _ _ _ _ rfl Try.isAgg2 rfl rfl (intsD_get _ _ 0 (by omega))) ?_
                  refine AQ_q 45 _ rfl rfl rfl (QOp_add _ _ _ _ _ _ _ rfl rfl rfl) ?_
                  refine AQ_q 46 _ rfl rfl rfl (QOp_max _ _ _ _ _ _ rfl rfl rfl rfl rfl) ?_
                  obtain ⟨hc13, h⟩ := guardO h
                  refine AQ_q 47 _ rfl rfl rfl (QOp_indexAddr_vec _ _ _ _ _ _ _ _ _ rfl Try.underlying29 Try.sizeOf2 hc13.1 (by rw [intsD_length]; exact hc13.2) rfl rfl rfl) ?_
                  refine AQ_nil ?_
                  refine AOps_store_eptr _ _ _ _ _ _ (intsD x7) _ rfl rfl rfl rfl rfl rfl rfl Try.sizeOf2 (by rw [intsD_length]; omega) ?_
                  rw [intsD_set]
                  refine AOps_nil ?_
                  cases h
                  exact Weak_keep 0 hm [1, 2, 5, 6, 7] [0] _ _ rfl rfl rfl
                · have h := iteF hb10 h
                  refine ACode_skip ?_
                  cases h
                  exact Weak_keep 0 hm [1, 2, 5, 6, 7] [0] _ _ rfl rfl rfl
              intro E' H' hw
              refine ACode_weak hw ?_
              have h := hks14
              refine (ACode_region ?_)
              refine AOps_q 27 _ rfl rfl rfl (QOp_move _ _ rfl rfl) ?_
              refine AOps_q 28 _ rfl rfl rfl (QOp_add _ _ _ _ _ _ _ rfl rfl rfl) ?_
              refine AOps_q 7 _ rfl rfl rfl (QOp_assign _ _ rfl rfl) ?_
              refine AOps_nil ?_
              exact ⟨k1, _, _, Nat.lt_succ_self _, Weak_keep 0 hm [1, 2, 5, 6, 7] [0] _ _ rfl rfl rfl, _, _, rfl, rfl, h⟩
            · have h := iteF hb8 h
              refine ACode_exit ?_
              cases h
              exact Weak_keep 0 hm [1, 2, 5, 6] [0] _ _ rfl rfl rfl
        intro E' H' hw
        refine ACode_weak hw ?_
        have h := hks15
        refine (ACode_region ?_)
        refine AOps_q 16 _ rfl rfl rfl (QOp_move _ _ rfl rfl) ?_
        refine AOps_q 17 _ rfl rfl rfl (QOp_sub _ _ _ _ _ _ _ rfl rfl rfl) ?_
        refine AOps_q 6 _ rfl rfl rfl (QOp_assign _ _ rfl rfl) ?_
        refine AOps_nil ?_
        exact ⟨k0, _, _, Nat.lt_succ_self _, Weak_keep 0 hm [1, 2, 5, 6] [0] _ _ rfl rfl rfl, _, _, rfl, rfl, h⟩
      · have h := iteF hb4 h
        refine ACode_exit ?_
        cases h
        exact Weak_keep 0 hm [5] [0] _ _ rfl rfl rfl
  intro E' H' hw
  refine ACode_weak hw ?_
  have h := hks16
  refine ACode_seq (ACode_region ?_)
  refine AOps_q 48 _ rfl rfl rfl (QOp_move _ _ rfl rfl) ?_
  refine AOps_q 4 _ rfl rfl rfl (QOp_assign _ _ rfl rfl) ?_
  refine AOps_nil ?_
  refine ACode_ret ?_
  cases h
  exact ⟨_, _, Weak_reset 0 hm hz [4] _ _ rfl rfl, _, _, [0], _, (.cons (ResV_tmp _ _ rfl) .nil), rfl, rfl, rfl, rfl, rfl⟩

-- loop.example/g01362/spec.l10Longest
def spec_l10Longest_l0 (r1 : List Int) : Nat → Int → Int → Option (Int)
  | 0, _, _ => none
  | k0 + 1, x2, x3 => (if decide (x3 < (r1.length : Int)) then (if 0 ≤ x3 ∧ x3 < (r1.length : Int) then spec_l10Longest_l0 r1 k0 (if x2 < (r1.getD x3.toNat 0) then (r1.getD x3.toNat 0) else x2) (w64 (x3 + 1)) else none) else some x2)
def spec_l10Longest_l1 (p0 : Col) (p1 : Int) (r1 : List Int) : Nat → Int → Int → (List Int) → Option (List Int)
  | 0, _, _, _ => none
  | k1 + 1, x7, x8, x9 => (letO (if decide (x8 < p0.p) then decide (0 < x7) else false) fun (s11 : Bool) => (if s11 then some (.inl ()) else (some x9).bind fun rr => some (.inr rr)) : Option (Sum (Unit) (List Int))).bind fun os13 => (match os13 with | .inl s13 => (((if 0 ≤ x8 ∧ x8 < (r1.length : Int) then (if decide ((r1.getD x8.toNat 0) = x7) then (if decide ((x9.length : Int) = 0) then some true else (if 0 ≤ w64 ((x9.length : Int) - 1) ∧ w64 ((x9.length : Int) - 1) < (x9.length : Int) then (spec_l01At p0 (x9.getD (w64 ((x9.length : Int) - 1)).toNat 0) x8).bind fun r18 => some (decide (r18 = p1)) else none)) else some false) else none) : Option (Bool)).bind fun s19 => (if s19 then (if x9.length + ([x8]).length ≤ 1099511627776 then some (w64 (x7 - 1), (x9 ++ ([x8]))) else none) else some (x7, x9)) : Option (Int × List Int)).bind fun s22 => spec_l10Longest_l1 p0 p1 r1 k1 s22.1 (w64 (x8 + 1)) s22.2 | .inr rr => some rr)
def spec_l10Longest (k : Nat) (p0 : Col) (p1 : Int) : Option (List Int) :=
  (spec_l10Ups k p0 p1).bind fun r1 => (spec_l10Longest_l0 r1 k 0 0 : Option (Int)).bind fun s6 => (spec_l10Longest_l1 p0 p1 r1 k s6 0 ([] : List Int) : Option (List Int)).bind fun s23 => some s23
set_option maxRecDepth 100000 in
theorem spec_l10Longest_ac (k : Nat) (p0 : Col) (p1 : Int) (r : List Int) (h : spec_l10Longest k p0 p1 = some r) : AC Try.prog 53 [.d (.agg (colD p0)), iV p1] [] (fun res H' => res = [.vec 0 0] ∧ H' = [.vec 0 (intsD r)]) := by
  refine AC_of_body true Try.func53 rfl Try.ntmps53 (rvs := [.tmp 4]) rfl rfl (fun G hG => ?_)
  have hm : G.H.length = 0 := by rw [hG]; rfl
  have hz : zeroG G.H = true := by rw [hG]; rfl
  unfold spec_l10Longest at h
  refine ACode_seq (ACode_region ?_)
  refine AOps_boxI 2 _ _ (.agg (colD p0)) (colD p0) rfl (colD_one _) rfl rfl rfl rfl rfl ?_
  refine AOps_q 4 _ rfl rfl rfl (QOp_assign _ _ rfl rfl) ?_
  refine AOps_nil ?_
  refine ACode_seq (ACode_region ?_)
  refine AOps_q 10 _ rfl rfl rfl (QOp_loadN_pv _ _ _ _ _ _ rfl Try.isAgg26 Try.sizeOf26 rfl (colD_all _) (colD_length _)) ?_
  refine AOps_q 11 _ rfl rfl rfl (QOp_move _ _ rfl rfl) ?_
  obtain ⟨r1, hr1, h⟩ := bindO h
  refine AOps_call [] 12 _ _ _ _ _ _ _ _ _ _ rfl rfl rfl rfl rfl rfl rfl Try.call111 rfl (nodupB_sound _ rfl) rfl rfl rfl (spec_l10Ups_ac k p0 p1 _ hr1) ?_
  rintro _ _ ⟨rfl, rfl⟩
  refine ⟨(allc (fun _ _ => trivial) (fun _ h => nomatch h)), (allc (trivial) (fun _ h => nomatch h)), AOps_as 12 (v' := .vec 0 0) (H' := [.vec 0 (intsD r1)]) rfl rfl ?_⟩
  refine AOps_q 5 _ rfl rfl rfl (QOp_assign _ _ rfl rfl) ?_
  refine AOps_q 6 _ rfl rfl rfl (QOp_assign _ _ rfl rfl) ?_
  refine AOps_nil ?_
  obtain ⟨s6, hss6, hks6⟩ := bindO h
  clear h
  refine ACode_seqJ (fun E' H' => Weak 67 G E' H' [(1, iV p1), (2, .d (.pv (colD p0) 0)), (5, .vec 0 0), (6, iV s6)] [.vec 0 (intsD r1)]) ?_ ?_
  · have h := hss6
    clear hss6
    refine ACode_seq (ACode_region ?_)
    refine AOps_q 7 _ rfl rfl rfl (QOp_assign _ _ rfl rfl) ?_
    refine AOps_nil ?_
    refine ACode_block ?_
    refine ACode_loopW (fun k0 E H => ∃ (x2 : Int) (x3 : Int), E = [(1, iV p1), (2, .d (.pv (colD p0) 0)), (5, .vec 0 0), (6, iV x2), (7, iV x3)] ∧ H = [.vec 0 (intsD r1)] ∧ spec_l10Longest_l0 r1 k0 x2 x3 = some s6) k _ _ (Weak_keep 0 hm [1, 2, 5, 6, 7] [0] _ _ rfl rfl rfl) ⟨_, _, rfl, rfl, h⟩ ?_
    clear h
    rintro k0 E H ⟨x2, x3, rfl, rfl, h⟩
    cases k0 with
    | zero => cases (show (none : Option (Int)) = some _ from h)
    | succ k0 =>
      rw [spec_l10Longest_l0] at h
      refine ACode_seq ?_
      refine ACode_seq (ACode_region ?_)
      refine AOps_q 13 _ rfl rfl rfl (QOp_move _ _ rfl rfl) ?_
      refine AOps_q 14 _ rfl rfl rfl (QOp_move _ _ rfl rfl) ?_
      refine AOps_q 15 _ rfl rfl rfl (QOp_len_vec _ _ _ _ _ _ _ _ (intsD_length _) rfl rfl rfl rfl Try.underlying29 rfl rfl) ?_
      refine AOps_q 16 _ rfl rfl rfl (QOp_lss _ _ _ _ _ _ _ rfl rfl rfl) ?_
      refine AOps_nil ?_
      refine ACode_cond _ rfl (fun hb4 => ?_) (fun hb4 => ?_)
      · have h := iteT hb4 h
        refine ACode_skip ?_
        refine ACode_seq ?_
        refine ACode_block ?_
        refine (ACode_region ?_)
        refine AOps_q 19 _ rfl rfl rfl (QOp_move _ _ rfl rfl) ?_
        refine AOps_q 20 _ rfl rfl rfl (QOp_move _ _ rfl rfl) ?_
        refine AOps_q 21 _ rfl rfl rfl (QOp_move _ _ rfl rfl) ?_
        obtain ⟨hc5, h⟩ := guardO h
        refine AOps_q 22 _ rfl rfl rfl (QOp_indexAddr_vec _ _ _ _ _ _ _ _ _ rfl Try.underlying29 Try.sizeOf2 hc5.1 (by rw [intsD_length]; exact hc5.2) rfl rfl rfl) ?_
        refine AOps_q 23 _ rfl rfl rfl (QOp_load_eptr _ _ _ _ _ _ _ rfl Try.isAgg2 rfl rfl (intsD_get _ _ 0 (by omega))) ?_
        refine AOps_q 24 _ rfl rfl rfl (QOp_max _ _ _ _ _ _ rfl rfl rfl rfl rfl) ?_
        refine AOps_q 6 _ rfl rfl rfl (QOp_assign _ _ rfl rfl) ?_
        refine AOps_nil ?_
        refine (ACode_region ?_)
        refine AOps_q 17 _ rfl rfl rfl (QOp_move _ _ rfl rfl) ?_
        refine AOps_q 18 _ rfl rfl rfl (QOp_add _ _ _ _ _ _ _ rfl rfl rfl) ?_
        refine AOps_q 7 _ rfl rfl rfl (QOp_assign _ _ rfl rfl) ?_
        refine AOps_nil ?_
        exact ⟨k0, _, _, Nat.lt_succ_self _, Weak_keep 0 hm [1, 2, 5, 6, 7] [0] _ _ rfl rfl rfl, _, _, rfl, rfl, h⟩
      · have h := iteF hb4 h
        refine ACode_exit ?_
        cases h
        exact Weak_keep 0 hm [1, 2, 5, 6] [0] _ _ rfl rfl rfl
  intro E' H' hw
  refine ACode_weak hw ?_
  have h := hks6
  refine ACode_seq (ACode_region ?_)
  refine AOps_buildSlice 25 _ _ _ [] (intsD ([] : List Int)) _ rfl rfl rfl rfl rfl (by decide) Try.underlying29 Try.sizeOf2 (zero_of Try.typeInfo2 rfl) rfl rfl (intsD_one _) ?_
  refine AOps_q 8 _ rfl rfl rfl (QOp_assign _ _ rfl rfl) ?_
  refine AOps_nil ?_
  obtain ⟨s23, hss23, hks23⟩ := bindO h
  clear h
  refine ACode_seqJ (fun E' H' => Weak 67 G E' H' [(8, .vec 0 0)] [.vec 0 (intsD s23)]) ?_ ?_
  · have h := hss23
    clear hss23
    refine ACode_seq (ACode_region ?_)
    refine AOps_q 9 _ rfl rfl rfl (QOp_assign _ _ rfl rfl) ?_
    refine AOps_nil ?_
    refine ACode_block ?_
    refine ACode_loopW (fun k1 E H => ∃ (x7 : Int) (x8 : Int) (x9 : List Int), E = [(1, iV p1), (2, .d (.pv (colD p0) 0)), (5, .vec 0 0), (6, iV x7), (8, .vec 1 0), (9, iV x8)] ∧ H = [.vec 0 (intsD r1), .vec 0 (intsD x9)] ∧ spec_l10Longest_l1 p0 p1 r1 k1 x7 x8 x9 = some s23) k _ _ (Weak_keep 0 hm [1, 2, 5, 6, 8, 9] [0, 1] _ _ rfl rfl rfl) ⟨_, _, _, rfl, rfl, h⟩ ?_
    clear h
    rintro k1 E H ⟨x7, x8, x9, rfl, rfl, h⟩
    cases k1 with
    | zero => cases (show (none : Option (List Int)) = some _ from h)
    | succ k1 =>
      rw [spec_l10Longest_l1] at h
      obtain ⟨os13, hss13, hks13⟩ := bindO h
      clear h
      refine ACode_seqJ (fun E' H' => ∃ s13 : Unit, os13 = .inl s13 ∧ Weak 67 G E' H' [(1, iV p1), (2, .d (.pv (colD p0) 0)), (5, .vec 0 0), (6, iV x7), (8, .vec 1 0), (9, iV x8)] [.vec 0 (intsD r1), .vec 0 (intsD x9)]) ?_ ?_
      · have h := hss13
        clear hss13
        obtain ⟨s11, hss11, hks11⟩ := letS h
        clear h
        refine ACode_seqJ (fun E' H' => Weak 67 G E' H' [(1, iV p1), (2, .d (.pv (colD p0) 0)), (5, .vec 0 0), (6, iV x7), (8, .vec 1 0), (9, iV x8), (33, bV s11)] [.vec 0 (intsD r1), .vec 0 (intsD x9)]) ?_ ?_
        · have h := hss11
          clear hss11
          refine (ACode_region ?_)
          refine AOps_q 26 _ rfl rfl rfl (QOp_move _ _ rfl rfl) ?_
          refine AOps_q 27 _ rfl rfl rfl (QOp_fieldAddr_pv _ _ _ _ _ 0 _ _ rfl Try.underlying26 rfl _ Try.sizeOf2 rfl rfl) ?_
          refine AOps_q 28 _ rfl rfl rfl (QOp_load_pv _ _ _ _ _ rfl Try.isAgg2 rfl rfl) ?_
          refine AOps_q 29 _ rfl rfl rfl (QOp_lss _ _ _ _ _ _ _ rfl rfl rfl) ?_
          refine AOps_q 30 _ rfl rfl rfl (QOp_move _ _ rfl rfl) ?_
          refine AOps_case 30 _ rfl (fun hb10 => ?_) (fun hb10 => ?_)
          · have h := iteT hb10 h
            refine AOps_q 31 _ rfl rfl rfl (QOp_move _ _ rfl rfl) ?_
            refine AOps_q 32 _ rfl rfl rfl (QOp_gtr _ _ _ _ _ _ _ rfl rfl rfl) ?_
            refine AOps_q 33 _ rfl rfl rfl (QOp_pick_t _ _ _ _ rfl rfl rfl) ?_
            refine AOps_nil ?_
            cases h
            exact Weak_keep 0 hm [1, 2, 5, 6, 8, 9, 33] [0, 1] _ _ rfl rfl rfl
          · have h := iteF hb10 h
            refine AOps_skip 31 rfl rfl rfl ?_
            refine AOps_skip 32 rfl rfl rfl ?_
            refine AOps_q 33 _ rfl rfl rfl (QOp_pick_f _ _ _ _ rfl rfl rfl) ?_
            refine AOps_nil ?_
            cases h
            exact Weak_keep 0 hm [1, 2, 5, 6, 8, 9, 33] [0, 1] _ _ rfl rfl rfl
        intro E' H' hw
        refine ACode_weak hw ?_
        have h := hks11
        refine ACode_cond _ rfl (fun hb12 => ?_) (fun hb12 => ?_)
        · have h := iteT hb12 h
          refine ACode_skip ?_
          cases h
          exact ⟨_, rfl, Weak_keep 0 hm [1, 2, 5, 6, 8, 9] [0, 1] _ _ rfl rfl rfl⟩
        · have h := iteF hb12 h
          refine ACode_exit ?_
          obtain ⟨rr, hz24, h2⟩ := bindO h
          obtain rfl := Option.some.inj h2
          obtain rfl := Option.some.inj (show some rr = some _ from hks13)
          have h := hz24
          cases h
          exact Weak_keep 0 hm [8] [1] _ _ rfl rfl rfl
      rintro E' H' ⟨s13, rfl, hw⟩
      refine ACode_weak hw ?_
      have h := hks13
      obtain ⟨s22, hss22, hks22⟩ := bindO h
      clear h
      refine ACode_seqJ (fun E' H' => Weak 67 G E' H' [(1, iV p1), (2, .d (.pv (colD p0) 0)), (5, .vec 0 0), (6, iV s22.1), (8, .vec 1 0), (9, iV x8)] [.vec 0 (intsD r1), .vec 0 (intsD s22.2)]) ?_ ?_
      · have h := hss22
        clear hss22
        refine ACode_block ?_
        obtain ⟨s19, hss19, hks19⟩ := bindO h
        clear h
        refine ACode_seqJ (fun E' H' => Weak 67 G E' H' [(1, iV p1), (2, .d (.pv (colD p0) 0)), (5, .vec 0 0), (6, iV x7), (8, .vec 1 0), (9, iV x8), (59, bV s19)] [.vec 0 (intsD r1), .vec 0 (intsD x9)]) ?_ ?_
        · have h := hss19
          clear hss19
          refine (ACode_quiet mixed (by kernel_rfl) ?_)
          refine AQ_q 36 _ rfl rfl rfl (QOp_move _ _ rfl rfl) ?_
          refine AQ_q 37 _ rfl rfl rfl (QOp_move _ _ rfl rfl) ?_
          obtain ⟨hc14, h⟩ := guardO h
          refine AQ_q 38 _ rfl rfl rfl (QOp_indexAddr_vec _ _ _ _ _ _ _ _ _ rfl Try.underlying29 Try.sizeOf2 hc14.1 (by rw [intsD_length]; exact hc14.2) rfl rfl rfl) ?_
          refine AQ_q 39 _ rfl rfl rfl (QOp_load_eptr _ _ _ _ _ _ _ rfl Try.isAgg2 rfl rfl (intsD_get _ _ 0 (by omega))) ?_
          refine AQ_q 40 _ rfl rfl rfl (QOp_move _ _ rfl rfl) ?_
          refine AQ_q 41 _ rfl rfl rfl (QOp_eql _ _ _ _ _ _ _ rfl rfl rfl) ?_
          refine AQ_q 42 _ rfl rfl rfl (QOp_move _ _ rfl rfl) ?_
          refine AQ_case 42 _ rfl (fun hb15 => ?_) (fun hb15 => ?_)
          · have h := iteT hb15 h
            refine AQ_q 43 _ rfl rfl rfl (QOp_move _ _ rfl rfl) ?_
            refine AQ_q 44 _ rfl rfl rfl (QOp_len_vec _ _ _ _ _ _ _ _ (intsD_length _) rfl rfl rfl rfl Try.underlying29 rfl rfl) ?_
            refine AQ_q 45 _ rfl rfl rfl (QOp_eql _ _ _ _ _ _ _ rfl rfl rfl) ?_
            refine AQ_q 46 _ rfl rfl rfl (QOp_move _ _ rfl rfl) ?_
            refine AQ_case 46 _ rfl (fun hb16 => ?_) (fun hb16 => ?_)
            · have h := iteT hb16 h
              refine AQ_skip 47 rfl rfl rfl ?_
              refine AQ_skip 48 rfl rfl rfl ?_
              refine AQ_skip 49 rfl rfl rfl ?_
              refine AQ_skip 50 rfl rfl rfl ?_
              refine AQ_skip 51 rfl rfl rfl ?_
              refine AQ_skip 52 rfl rfl rfl ?_
              refine AQ_skip 53 rfl rfl rfl ?_
              refine AQ_skip 54 rfl rfl rfl ?_
              refine AQ_skip 55 rfl rfl rfl ?_
              refine AQ_skip 56 rfl rfl rfl ?_
              refine AQ_skip 57 rfl rfl rfl ?_
              refine AQ_q 58 _ rfl rfl rfl (QOp_pick_t _ _ _ _ rfl rfl rfl) ?_
              refine AQ_q 59 _ rfl rfl rfl (QOp_pick_t _ _ _ _ rfl rfl rfl) ?_
              refine AQ_nil ?_
              cases h
              exact Weak_keep 0 hm [1, 2, 5, 6, 8, 9, 59] [0, 1] _ _ rfl rfl rfl
            · have h := iteF hb16 h
              refine AQ_q 47 _ rfl rfl rfl (QOp_loadN_pv _ _ _ _ _ _ rfl Try.isAgg26 Try.sizeOf26 rfl (colD_all _) (colD_length _)) ?_
              refine AQ_q 48 _ rfl rfl rfl (QOp_move _ _ rfl rfl) ?_
              refine AQ_q 49 _ rfl rfl rfl (QOp_move _ _ rfl rfl) ?_
              refine AQ_q 50 _ rfl rfl rfl (QOp_len_vec _ _ _ _ _ _ _ _ (intsD_length _) rfl rfl rfl rfl Try.underlying29 rfl rfl) ?_
              refine AQ_q 51 _ rfl rfl rfl (QOp_sub _ _ _ _ _ _ _ rfl rfl rfl) ?_
              obtain ⟨hc17, h⟩ := guardO h
              refine AQ_q 52 _ rfl rfl rfl (QOp_indexAddr_vec _ _ _ _ _ _ _ _ _ rfl Try.underlying29 Try.sizeOf2 hc17.1 (by rw [intsD_length]; exact hc17.2) rfl rfl rfl) ?_
              refine AQ_q 53 _ rfl rfl rfl (QOp_load_eptr _ _ _ _ _ _ _ rfl Try.isAgg2 rfl rfl (intsD_get _ _ 0 (by omega))) ?_
              refine AQ_q 54 _ rfl rfl rfl (QOp_move _ _ rfl rfl) ?_
              obtain ⟨r18, hr18, h⟩ := bindO h
              refine AQ_call 55 _ _ _ _ _ _ _ _ _ rfl rfl rfl rfl rfl rfl rfl Try.call54 rfl rfl rfl (spec_l01At_ac p0 (x9.getD (w64 ((x9.length : Int) - 1)).toNat 0) x8 _ hr18) ?_
              refine AQ_q 56 _ rfl rfl rfl (QOp_move _ _ rfl rfl) ?_
              refine AQ_q 57 _ rfl rfl rfl (QOp_eql _ _ _ _ _ _ _ rfl rfl rfl) ?_
              refine AQ_q 58 _ rfl rfl rfl (QOp_pick_f _ _ _ _ rfl rfl rfl) ?_
              refine AQ_q 59 _ rfl rfl rfl (QOp_pick_t _ _ _ _ rfl rfl rfl) ?_
              refine AQ_nil ?_
              cases h
              exact Weak_keep 0 hm [1, 2, 5, 6, 8, 9, 59] [0, 1] _ _ rfl rfl rfl
          · have h := iteF hb15 h
            refine AQ_skip 43 rfl rfl rfl ?_
            refine AQ_skip 44 rfl rfl rfl ?_
            refine AQ_skip 45 rfl rfl rfl ?_
            refine AQ_skip 46 rfl rfl rfl ?_
            refine AQ_skip 47 rfl rfl rfl ?_
            refine AQ_skip 48 rfl rfl rfl ?_
            refine AQ_skip 49 rfl rfl rfl ?_
            refine AQ_skip 50 rfl rfl rfl ?_
            refine AQ_skip 51 rfl rfl rfl ?_
            refine AQ_skip 52 rfl rfl rfl ?_
            refine AQ_skip 53 rfl rfl rfl ?_
            refine AQ_skip 54 rfl rfl rfl ?_
            refine AQ_skip 55 rfl rfl rfl ?_
            refine AQ_skip 56 rfl rfl rfl ?_
            refine AQ_skip 57 rfl rfl rfl ?_
            refine AQ_skip 58 rfl rfl rfl ?_
            refine AQ_q 59 _ rfl rfl rfl (QOp_pick_f _ _ _ _ rfl rfl rfl) ?_
            refine AQ_nil ?_
            cases h
            exact Weak_keep 0 hm [1, 2, 5, 6, 8, 9, 59] [0, 1] _ _ rfl rfl rfl
        intro E' H' hw
        refine ACode_weak hw ?_
        have h := hks19
        refine ACode_cond _ rfl (fun hb20 => ?_) (fun hb20 => ?_)
        · have h := iteT hb20 h
          refine ACode_seq (ACode_region ?_)
          refine AOps_q 60 _ rfl rfl rfl (QOp_move _ _ rfl rfl) ?_
          refine AOps_q 61 _ rfl rfl rfl (QOp_move _ _ rfl rfl) ?_
          refine AOps_buildSlice 62 _ _ _ [_] (intsD ([x8])) _ rfl rfl rfl rfl rfl (by decide) Try.underlying29 Try.sizeOf2 (zero_of Try.typeInfo2 rfl) rfl rfl (intsD_one _) ?_
          obtain ⟨hc21, h⟩ := guardO h
          refine AOps_append 63 _ _ _ _ _ _ _ _ _ _ _ _ rfl rfl rfl rfl rfl rfl rfl Try.underlying29 Try.type2 rfl rfl rfl (by decide) rfl rfl rfl rfl (intsD_one _) (by rw [intsD_length, intsD_length]; exact hc21) ?_
          rw [intsD_app]
          refine AOps_q 8 _ rfl rfl rfl (QOp_assign _ _ rfl rfl) ?_
          refine AOps_nil ?_
          refine (ACode_region ?_)
          refine AOps_q 64 _ rfl rfl rfl (QOp_move _ _ rfl rfl) ?_
          refine AOps_q 65 _ rfl rfl rfl (QOp_sub _ _ _ _ _ _ _ rfl rfl rfl) ?_
          refine AOps_q 6 _ rfl rfl rfl (QOp_assign _ _ rfl rfl) ?_
          refine AOps_nil ?_
          cases h
          exact Weak_trans (Weak_keep 0 hm [1, 2, 5, 6, 8, 9] [0, 1] _ _ rfl rfl rfl) (Weak_reset 0 hm hz [1, 2, 5, 6, 8, 9] _ _ rfl rfl)
        · have h := iteF hb20 h
          refine ACode_skip ?_
          cases h
          exact Weak_keep 0 hm [1, 2, 5, 6, 8, 9] [0, 1] _ _ rfl rfl rfl
      intro E' H' hw
      refine ACode_weak hw ?_
      have h := hks22
      refine (ACode_region ?_)
      refine AOps_q 34 _ rfl rfl rfl (QOp_move _ _ rfl rfl) ?_
      refine AOps_q 35 _ rfl rfl rfl (QOp_add _ _ _ _ _ _ _ rfl rfl rfl) ?_
      refine AOps_q 9 _ rfl rfl rfl (QOp_assign _ _ rfl rfl) ?_
      refine AOps_nil ?_
      exact ⟨k1, _, _, Nat.lt_succ_self _, Weak_keep 0 hm [1, 2, 5, 6, 8, 9] [0, 1] _ _ rfl rfl rfl, _, _, _, rfl, rfl, h⟩
  intro E' H' hw
  refine ACode_weak hw ?_
  have h := hks23
  refine ACode_seq (ACode_region ?_)
  refine AOps_q 66 _ rfl rfl rfl (QOp_move _ _ rfl rfl) ?_
  refine AOps_q 4 _ rfl rfl rfl (QOp_assign _ _ rfl rfl) ?_
  refine AOps_nil ?_
  refine ACode_ret ?_
  cases h
  exact ⟨_, _, Weak_reset 0 hm hz [4] _ _ rfl rfl, _, _, [0], _, (.cons (ResV_tmp _ _ rfl) .nil), rfl, rfl, rfl, rfl, rfl⟩

-- loop.example/g01362/spec.LongestUp
def spec_LongestUp (k : Nat) (p0 : Col) (p1 : Int) : Option (List Int × Int) :=
  (spec_l01Given k p0 p1 ([])).bind fun r1 => (if !decide (r1 = 0) then some ([], r1) else (spec_l10Longest k p0 p1).bind fun r3 => some (r3, 0))
set_option maxRecDepth 100000 in
theorem spec_LongestUp_ac (k : Nat) (p0 : Col) (p1 : Int) (r : List Int × Int) (h : spec_LongestUp k p0 p1 = some r) : AC Try.prog 9 [.d (.agg (colD p0)), iV p1] [] (fun res H' => res = [.d (.sl none (intsD r.1)), iV r.2] ∧ H' = []) := by
  refine AC_of_body true Try.func9 rfl Try.ntmps9 (rvs := [.tmp 4, .tmp 5]) rfl rfl (fun G hG => ?_)
  have hm : G.H.length = 0 := by rw [hG]; rfl
  have hz : zeroG G.H = true := by rw [hG]; rfl
  unfold spec_LongestUp at h
  refine ACode_seq (ACode_region ?_)
  refine AOps_boxI 2 _ _ (.agg (colD p0)) (colD p0) rfl (colD_one _) rfl rfl rfl rfl rfl ?_
  refine AOps_q 4 _ rfl rfl rfl (QOp_assign _ _ rfl rfl) ?_
  refine AOps_q 5 _ rfl rfl rfl (QOp_assign _ _ rfl rfl) ?_
  refine AOps_nil ?_
  refine ACode_seq ?_
  refine ACode_seq (ACode_region ?_)
  refine AOps_q 7 _ rfl rfl rfl (QOp_loadN_pv _ _ _ _ _ _ rfl Try.isAgg26 Try.sizeOf26 rfl (colD_all _) (colD_length _)) ?_
  refine AOps_q 8 _ rfl rfl rfl (QOp_move _ _ rfl rfl) ?_
  obtain ⟨r1, hr1, h⟩ := bindO h
  refine AOps_call [] 9 _ _ _ _ _ _ _ _ _ _ rfl rfl rfl rfl rfl rfl rfl Try.call52 rfl (nodupB_sound _ rfl) rfl rfl rfl (spec_l01Given_ac k p0 p1 ([]) _ hr1) ?_
  rintro _ _ ⟨rfl, rfl⟩
  refine ⟨(fun _ h => nomatch h), (allc (trivial) (fun _ h => nomatch h)), AOps_as 9 (v' := iV r1) (H' := []) rfl rfl ?_⟩
  refine AOps_q 6 _ rfl rfl rfl (QOp_assign _ _ rfl rfl) ?_
  refine AOps_nil ?_
  refine ACode_seq (ACode_region ?_)
  refine AOps_q 10 _ rfl rfl rfl (QOp_move _ _ rfl rfl) ?_
  refine AOps_q 11 _ rfl rfl rfl (QOp_neq _ _ _ _ _ _ _ rfl rfl rfl) ?_
  refine AOps_nil ?_
  refine ACode_cond _ rfl (fun hb2 => ?_) (fun hb2 => ?_)
  · have h := iteT hb2 h
    refine ACode_seq (ACode_region ?_)
    refine AOps_q 12 _ rfl rfl rfl (QOp_move _ _ rfl rfl) ?_
    refine AOps_q 4 _ rfl rfl rfl (QOp_assign _ _ rfl rfl) ?_
    refine AOps_q 5 _ rfl rfl rfl (QOp_assign _ _ rfl rfl) ?_
    refine AOps_nil ?_
    refine ACode_ret ?_
    cases h
    exact ⟨_, _, fun r a w h => ⟨r, h⟩, _, _, [], _, (.cons (ResV_tmp _ _ rfl) (.cons (ResV_tmp _ _ rfl) .nil)), rfl, rfl, rfl, rfl, rfl⟩
  · have h := iteF hb2 h
    refine ACode_skip ?_
    refine ACode_seq (ACode_region ?_)
    refine AOps_q 13 _ rfl rfl rfl (QOp_loadN_pv _ _ _ _ _ _ rfl Try.isAgg26 Try.sizeOf26 rfl (colD_all _) (colD_length _)) ?_
    refine AOps_q 14 _ rfl rfl rfl (QOp_move _ _ rfl rfl) ?_
    obtain ⟨r3, hr3, h⟩ := bindO h
    refine AOps_call [] 15 _ _ _ _ _ _ _ _ _ _ rfl rfl rfl rfl rfl rfl rfl Try.call53 rfl (nodupB_sound _ rfl) rfl rfl rfl (spec_l10Longest_ac k p0 p1 _ hr3) ?_
    rintro _ _ ⟨rfl, rfl⟩
    refine ⟨(allc (fun _ _ => trivial) (fun _ h => nomatch h)), (allc (trivial) (fun _ h => nomatch h)), AOps_as 15 (v' := .vec 0 0) (H' := [.vec 0 (intsD r3)]) rfl rfl ?_⟩
    refine AOps_q 4 _ rfl rfl rfl (QOp_assign _ _ rfl rfl) ?_
    refine AOps_q 5 _ rfl rfl rfl (QOp_assign _ _ rfl rfl) ?_
    refine AOps_nil ?_
    refine ACode_ret ?_
    cases h
    exact ⟨_, _, fun r a w h => ⟨r, h⟩, _, _, [], _, (.cons (ResV_tmp _ _ rfl) (.cons (ResV_tmp _ _ rfl) .nil)), rfl, rfl, rfl, rfl, rfl⟩

-- loop.example/g01362/laws.likeInts
def laws_likeInts_l0 (p0 : List Int) (p1 : List Int) : Nat → Int → Option (Sum (Unit) (Bool))
  | 0, _ => none
  | k0 + 1, x2 => (if decide (x2 < (p0.length : Int)) then (if 0 ≤ x2 ∧ x2 < (p0.length : Int) then (if 0 ≤ x2 ∧ x2 < (p1.length : Int) then (if !decide ((p0.getD x2.toNat 0) = (p1.getD x2.toNat 0)) then some (.inr false) else laws_likeInts_l0 p0 p1 k0 (w64 (x2 + 1))) else none) else none) else some (.inl ()))
def laws_likeInts (k : Nat) (p0 : List Int) (p1 : List Int) : Option (Bool) :=
  (if !decide ((p0.length : Int) = (p1.length : Int)) then some false else (laws_likeInts_l0 p0 p1 k 0 : Option (Sum (Unit) (Bool))).bind fun os7 => (match os7 with | .inl s7 => some true | .inr rr => some rr))
set_option maxRecDepth 100000 in
theorem laws_likeInts_ac (k : Nat) (p0 : List Int) (p1 : List Int) (r : Bool) (h : laws_likeInts k p0 p1 = some r) : AC Try.prog 10 [.d (.sl none (intsD p0)), .d (.sl none (intsD p1))] [] (fun res H' => res = [bV r] ∧ H' = []) := by
  refine AC_of_body true Try.func10 rfl Try.ntmps10 (rvs := [.tmp 4]) rfl rfl (fun G hG => ?_)
  have hm : G.H.length = 0 := by rw [hG]; rfl
  have hz : zeroG G.H = true := by rw [hG]; rfl
  unfold laws_likeInts at h
  refine ACode_seq (ACode_region ?_)
  refine AOps_q 4 _ rfl rfl rfl (QOp_assign _ _ rfl rfl) ?_
  refine AOps_nil ?_
  refine ACode_seq ?_
  refine ACode_seq (ACode_region ?_)
  refine AOps_q 6 _ rfl rfl rfl (QOp_move _ _ rfl rfl) ?_
  refine AOps_q 7 _ rfl rfl rfl (QOp_len_sl _ _ _ _ _ _ _ (intsD_length _) rfl rfl rfl rfl Try.underlying29 rfl) ?_
  refine AOps_q 8 _ rfl rfl rfl (QOp_move _ _ rfl rfl) ?_
  refine AOps_q 9 _ rfl rfl rfl (QOp_len_sl _ _ _ _ _ _ _ (intsD_length _) rfl rfl rfl rfl Try.underlying29 rfl) ?_
  refine AOps_q 10 _ rfl rfl rfl (QOp_neq _ _ _ _ _ _ _ rfl rfl rfl) ?_
  refine AOps_nil ?_
  refine ACode_cond _ rfl (fun hb1 => ?_) (fun hb1 => ?_)
  · have h := iteT hb1 h
    refine ACode_seq (ACode_region ?_)
    refine AOps_q 4 _ rfl rfl rfl (QOp_assign _ _ rfl rfl) ?_
    refine AOps_nil ?_
    refine ACode_ret ?_
    cases h
    exact ⟨_, _, fun r a w h => ⟨r, h⟩, _, _, [], _, (.cons (ResV_tmp _ _ rfl) .nil), rfl, rfl, rfl, rfl, rfl⟩
  · have h := iteF hb1 h
    refine ACode_skip ?_
    obtain ⟨os7, hss7, hks7⟩ := bindO h
    clear h
    refine ACode_seqJ (fun E' H' => ∃ s7 : Unit, os7 = .inl s7 ∧ Weak 26 G E' H' [] []) ?_ ?_
    · have h := hss7
      clear hss7
      refine ACode_seq (ACode_region ?_)
      refine AOps_q 5 _ rfl rfl rfl (QOp_assign _ _ rfl rfl) ?_
      refine AOps_nil ?_
      refine ACode_block ?_
      refine ACode_loopW (fun k0 E H => ∃ (x2 : Int), E = [(0, .d (.sl none (intsD p0))), (1, .d (.sl none (intsD p1))), (5, iV x2)] ∧ H = [] ∧ laws_likeInts_l0 p0 p1 k0 x2 = some os7) k _ _ (Weak_keep 0 hm [0, 1, 5] [] _ _ rfl rfl rfl) ⟨_, rfl, rfl, h⟩ ?_
      clear h
      rintro k0 E H ⟨x2, rfl, rfl, h⟩
      cases k0 with
      | zero => cases (show (none : Option (Sum (Unit) (Bool))) = some _ from h)
      | succ k0 =>
        rw [laws_likeInts_l0] at h
        refine ACode_seq ?_
        refine ACode_seq (ACode_region ?_)
        refine AOps_q 11 _ rfl rfl rfl (QOp_move _ _ rfl rfl) ?_
        refine AOps_q 12 _ rfl rfl rfl (QOp_move _ _ rfl rfl) ?_
        refine AOps_q 13 _ rfl rfl rfl (QOp_len_sl _ _ _ _ _ _ _ (intsD_length _) rfl rfl rfl rfl Try.underlying29 rfl) ?_
        refine AOps_q 14 _ rfl rfl rfl (QOp_lss _ _ _ _ _ _ _ rfl rfl rfl) ?_
        refine AOps_nil ?_
        refine ACode_cond _ rfl (fun hb3 => ?_) (fun hb3 => ?_)
        · have h := iteT hb3 h
          refine ACode_skip ?_
          refine ACode_seq ?_
          refine ACode_block ?_
          refine ACode_seq (ACode_quiet mixed (by kernel_rfl) ?_)
          refine AQ_q 17 _ rfl rfl rfl (QOp_move _ _ rfl rfl) ?_
          refine AQ_q 18 _ rfl rfl rfl (QOp_move _ _ rfl rfl) ?_
          obtain ⟨hc4, h⟩ := guardO h
          refine AQ_q 19 _ rfl rfl rfl (QOp_indexAddr_sl _ _ _ _ _ _ _ _ rfl Try.underlying29 Try.sizeOf2 hc4.1 (by rw [intsD_length]; exact hc4.2) rfl rfl) ?_
          refine AQ_q 20 _ rfl rfl rfl (QOp_load_pv _ _ _ _ _ rfl Try.isAgg2 rfl (intsD_get _ _ 0 (by omega))) ?_
          refine AQ_q 21 _ rfl rfl rfl (QOp_move _ _ rfl rfl) ?_
          refine AQ_q 22 _ rfl rfl rfl (QOp_move _ _ rfl rfl) ?_
          obtain ⟨hc5, h⟩ := guardO h
          refine AQ_q 23 _ rfl rfl rfl (QOp_indexAddr_sl _ _ _ _ _ _ _ _ rfl Try.underlying29 Try.sizeOf2 hc5.1 (by rw [intsD_length]; exact hc5.2) rfl rfl) ?_
          refine AQ_q 24 _ rfl rfl rfl (QOp_load_pv _ _ _ _ _ rfl Try.isAgg2 rfl (intsD_get _ _ 0 (by omega))) ?_
          refine AQ_q 25 _ rfl rfl rfl (QOp_neq _ _ _ _ _ _ _ rfl rfl rfl) ?_
          refine AQ_nil ?_
          refine ACode_cond _ rfl (fun hb6 => ?_) (fun hb6 => ?_)
          · have h := iteT hb6 h
            refine ACode_seq (ACode_region ?_)
            refine AOps_q 4 _ rfl rfl rfl (QOp_assign _ _ rfl rfl) ?_
            refine AOps_nil ?_
            refine ACode_ret ?_
            cases h
            have h := hks7
            cases h
            exact ⟨_, _, fun r a w h => ⟨r, h⟩, _, _, [], _, (.cons (ResV_tmp _ _ rfl) .nil), rfl, rfl, rfl, rfl, rfl⟩
          · have h := iteF hb6 h
            refine ACode_skip ?_
            refine (ACode_region ?_)
            refine AOps_q 15 _ rfl rfl rfl (QOp_move _ _ rfl rfl) ?_
            refine AOps_q 16 _ rfl rfl rfl (QOp_add _ _ _ _ _ _ _ rfl rfl rfl) ?_
            refine AOps_q 5 _ rfl rfl rfl (QOp_assign _ _ rfl rfl) ?_
            refine AOps_nil ?_
            exact ⟨k0, _, _, Nat.lt_succ_self _, Weak_keep 0 hm [0, 1, 5] [] _ _ rfl rfl rfl, _, rfl, rfl, h⟩
        · have h := iteF hb3 h
          refine ACode_exit ?_
          cases h
          exact ⟨_, rfl, Weak_keep 0 hm [] [] _ _ rfl rfl rfl⟩
    rintro E' H' ⟨s7, rfl, hw⟩
    refine ACode_weak hw ?_
    have h := hks7
    refine ACode_seq (ACode_region ?_)
    refine AOps_q 4 _ rfl rfl rfl (QOp_assign _ _ rfl rfl) ?_
    refine AOps_nil ?_
    refine ACode_ret ?_
    cases h
    exact ⟨_, _, fun r a w h => ⟨r, h⟩, _, _, [], _, (.cons (ResV_tmp _ _ rfl) .nil), rfl, rfl, rfl, rfl, rfl⟩

-- loop.example/g01362/impl.UpLengths
def impl_UpLengths (k : Nat) (p0 : Col) (p1 : Int) : Option (Option (List Int) × Int) :=
  (impl_Colouring_colourCode k p0 p1 true).bind fun r1 => (if !decide (r1 = 0) then some (none, r1) else (impl_Colouring_ups k p0 p1).bind fun r3 => some (some r3.1, 0))
set_option maxRecDepth 100000 in
theorem impl_UpLengths_ac (k : Nat) (p0 : Col) (p1 : Int) (r : Option (List Int) × Int) (h : impl_UpLengths k p0 p1 = some r) : AC Try.prog 11 [.d (.agg (colD p0)), iV p1] [] (fun res H' => res = [ownA 0 (r.1.map intsD), iV r.2] ∧ H' = [] ++ ownH (r.1.map intsD)) := by
  refine AC_of_body false Try.func11 rfl Try.ntmps11 (rvs := [.tmp 4, .tmp 5]) rfl rfl (fun G hG => ?_)
  have hm : G.H.length = 0 := by rw [hG]; rfl
  have hz : zeroG G.H = true := by rw [hG]; rfl
  unfold impl_UpLengths at h
  refine ACode_seq (ACode_region ?_)
  refine AOps_boxI 2 _ _ (.agg (colD p0)) (colD p0) rfl (colD_one _) rfl rfl rfl rfl rfl ?_
  refine AOps_q 4 _ rfl rfl rfl (QOp_assign _ _ rfl rfl) ?_
  refine AOps_q 5 _ rfl rfl rfl (QOp_assign _ _ rfl rfl) ?_
  refine AOps_nil ?_
  refine ACode_seq ?_
  refine ACode_seq (ACode_region ?_)
  refine AOps_q 9 _ rfl rfl rfl (QOp_move _ _ rfl rfl) ?_
  obtain ⟨r1, hr1, h⟩ := bindO h
  refine AOps_call [] 10 _ _ _ _ _ _ _ _ _ _ rfl rfl rfl rfl rfl rfl rfl Try.call48 rfl (nodupB_sound _ rfl) rfl rfl rfl (impl_Colouring_colourCode_ac k p0 p1 true _ hr1) ?_
  rintro _ _ ⟨rfl, rfl⟩
  refine ⟨(fun _ h => nomatch h), (allc (trivial) (fun _ h => nomatch h)), AOps_as 10 (v' := iV r1) (H' := []) rfl rfl ?_⟩
  refine AOps_q 6 _ rfl rfl rfl (QOp_assign _ _ rfl rfl) ?_
  refine AOps_nil ?_
  refine ACode_seq (ACode_region ?_)
  refine AOps_q 11 _ rfl rfl rfl (QOp_move _ _ rfl rfl) ?_
  refine AOps_q 12 _ rfl rfl rfl (QOp_neq _ _ _ _ _ _ _ rfl rfl rfl) ?_
  refine AOps_nil ?_
  refine ACode_cond _ rfl (fun hb2 => ?_) (fun hb2 => ?_)
  · have h := iteT hb2 h
    refine ACode_seq (ACode_region ?_)
    refine AOps_q 13 _ rfl rfl rfl (QOp_move _ _ rfl rfl) ?_
    refine AOps_q 4 _ rfl rfl rfl (QOp_assign _ _ rfl rfl) ?_
    refine AOps_q 5 _ rfl rfl rfl (QOp_assign _ _ rfl rfl) ?_
    refine AOps_nil ?_
    refine ACode_ret ?_
    cases h
    exact ⟨_, _, fun r a w h => ⟨r, h⟩, _, _, [], _, (.cons (ResV_tmp _ _ rfl) (.cons (ResV_tmp _ _ rfl) .nil)), rfl, rfl, rfl, rfl, rfl⟩
  · have h := iteF hb2 h
    refine ACode_skip ?_
    refine ACode_seq (ACode_region ?_)
    refine AOps_q 15 _ rfl rfl rfl (QOp_move _ _ rfl rfl) ?_
    obtain ⟨r3, hr3, h⟩ := bindO h
    refine AOps_call [] 16 _ _ _ _ _ _ _ _ _ _ rfl rfl rfl rfl rfl rfl rfl Try.call49 rfl (nodupB_sound _ rfl) rfl rfl rfl (impl_Colouring_ups_ac k p0 p1 _ hr3) ?_
    rintro _ _ ⟨rfl, rfl⟩
    refine ⟨(allc (fun _ _ => trivial) (allc (fun _ _ => trivial) (fun _ h => nomatch h))), (allc (trivial) (allc (trivial) (fun _ h => nomatch h))), AOps_as 16 (v' := .tup [.vec 0 0, .vec 1 0]) (H' := [.vec 0 (intsD r3.1), .vec 0 (intsD r3.2)]) rfl rfl ?_⟩
    refine AOps_q 14 _ rfl rfl rfl (QOp_move _ _ rfl rfl) ?_
    refine AOps_q 17 _ rfl rfl rfl (QOp_extract _ _ _ _ rfl rfl rfl) ?_
    refine AOps_q 18 _ rfl rfl rfl (QOp_extract _ _ _ _ rfl rfl rfl) ?_
    refine AOps_q 7 _ rfl rfl rfl (QOp_assign _ _ rfl rfl) ?_
    refine AOps_q 8 _ rfl rfl rfl (QOp_assign _ _ rfl rfl) ?_
    refine AOps_nil ?_
    refine ACode_seq (ACode_region ?_)
    refine AOps_q 19 _ rfl rfl rfl (QOp_move _ _ rfl rfl) ?_
    refine AOps_q 4 _ rfl rfl rfl (QOp_assign _ _ rfl rfl) ?_
    refine AOps_q 5 _ rfl rfl rfl (QOp_assign _ _ rfl rfl) ?_
    refine AOps_nil ?_
    refine ACode_ret ?_
    cases h
    exact ⟨_, _, Weak_reset 0 hm hz [4, 5] _ _ rfl rfl, _, _, [0], _, (.cons (ResV_tmp _ _ rfl) (.cons (ResV_tmp _ _ rfl) .nil)), rfl, rfl, rfl, rfl, rfl⟩

-- loop.example/g01362/spec.UpLengths
def spec_UpLengths_l1 (p0 : Col) (p1 : Int) (x3 : Int) (x4 : List Int) : Nat → Int → Int → Option (Int)
  | 0, _, _ => none
  | k1 + 1, x6, x7 => (if decide (x7 < x3) then ((spec_l01At p0 x7 x3).bind fun r9 => (if decide (r9 = p1) then (if 0 ≤ x7 ∧ x7 < (x4.length : Int) then some (if x6 < w64 ((x4.getD x7.toNat 0) + 1) then w64 ((x4.getD x7.toNat 0) + 1) else x6) else none) else some x6) : Option (Int)).bind fun s12 => spec_UpLengths_l1 p0 p1 x3 x4 k1 s12 (w64 (x7 + 1)) else some x6)
def spec_UpLengths_l0 (k : Nat) (p0 : Col) (p1 : Int) : Nat → Int → (List Int) → Option (List Int)
  | 0, _, _ => none
  | k0 + 1, x3, x4 => (if decide (x3 < p0.p) then ((spec_UpLengths_l1 p0 p1 x3 x4 k 1 0 : Option (Int)).bind fun s13 => (if x4.length + ([s13]).length ≤ 1099511627776 then some (x4 ++ ([s13])) else none) : Option (List Int)).bind fun s15 => spec_UpLengths_l0 k p0 p1 k0 (w64 (x3 + 1)) s15 else some x4)
def spec_UpLengths (k : Nat) (p0 : Col) (p1 : Int) : Option (List Int × Int) :=
  (spec_l01Given k p0 p1 ([])).bind fun r1 => (if !decide (r1 = 0) then some ([], r1) else (spec_UpLengths_l0 k p0 p1 k 0 ([] : List Int) : Option (List Int)).bind fun s16 => some (s16, 0))
set_option maxRecDepth 100000 in
theorem spec_UpLengths_ac (k : Nat) (p0 : Col) (p1 : Int) (r : List Int × Int) (h : spec_UpLengths k p0 p1 = some r) : AC Try.prog 12 [.d (.agg (colD p0)), iV p1] [] (fun res H' => res = [.d (.sl none (intsD r.1)), iV r.2] ∧ H' = []) := by
  refine AC_of_body true Try.func12 rfl Try.ntmps12 (rvs := [.tmp 4, .tmp 5]) rfl rfl (fun G hG => ?_)
  have hm : G.H.length = 0 := by rw [hG]; rfl
  have hz : zeroG G.H = true := by rw [hG]; rfl
  unfold spec_UpLengths at h
  refine ACode_seq (ACode_region ?_)
  refine AOps_boxI 2 _ _ (.agg (colD p0)) (colD p0) rfl (colD_one _) rfl rfl rfl rfl rfl ?_
  refine AOps_q 4 _ rfl rfl rfl (QOp_assign _ _ rfl rfl) ?_
  refine AOps_q 5 _ rfl rfl rfl (QOp_assign _ _ rfl rfl) ?_
  refine AOps_nil ?_
  refine ACode_seq ?_
  refine ACode_seq (ACode_region ?_)
  refine AOps_q 11 _ rfl rfl rfl (QOp_loadN_pv _ _ _ _ _ _ rfl Try.isAgg26 Try.sizeOf26 rfl (colD_all _) (colD_length _)) ?_
  refine AOps_q 12 _ rfl rfl rfl (QOp_move _ _ rfl rfl) ?_
  obtain ⟨r1, hr1, h⟩ := bindO h
  refine AOps_call [] 13 _ _ _ _ _ _ _ _ _ _ rfl rfl rfl rfl rfl rfl rfl Try.call52 rfl (nodupB_sound _ rfl) rfl rfl rfl (spec_l01Given_ac k p0 p1 ([]) _ hr1) ?_
  rintro _ _ ⟨rfl, rfl⟩
  refine ⟨(fun _ h => nomatch h), (allc (trivial) (fun _ h => nomatch h)), AOps_as 13 (v' := iV r1) (H' := []) rfl rfl ?_⟩
  refine AOps_q 6 _ rfl rfl rfl (QOp_assign _ _ rfl rfl) ?_
  refine AOps_nil ?_
  refine ACode_seq (ACode_region ?_)
  refine AOps_q 14 _ rfl rfl rfl (QOp_move _ _ rfl rfl) ?_
  refine AOps_q 15 _ rfl rfl rfl (QOp_neq _ _ _ _ _ _ _ rfl rfl rfl) ?_
  refine AOps_nil ?_
  refine ACode_cond _ rfl (fun hb2 => ?_) (fun hb2 => ?_)
  · have h := iteT hb2 h
    refine ACode_seq (ACode_region ?_)
    refine AOps_q 16 _ rfl rfl rfl (QOp_move _ _ rfl rfl) ?_
    refine AOps_q 4 _ rfl rfl rfl (QOp_assign _ _ rfl rfl) ?_
    refine AOps_q 5 _ rfl rfl rfl (QOp_assign _ _ rfl rfl) ?_
    refine AOps_nil ?_
    refine ACode_ret ?_
    cases h
    exact ⟨_, _, fun r a w h => ⟨r, h⟩, _, _, [], _, (.cons (ResV_tmp _ _ rfl) (.cons (ResV_tmp _ _ rfl) .nil)), rfl, rfl, rfl, rfl, rfl⟩
  · have h := iteF hb2 h
    refine ACode_skip ?_
    refine ACode_seq (ACode_region ?_)
    refine AOps_buildSlice 17 _ _ _ [] (intsD ([] : List Int)) _ rfl rfl rfl rfl rfl (by decide) Try.underlying29 Try.sizeOf2 (zero_of Try.typeInfo2 rfl) rfl rfl (intsD_one _) ?_
    refine AOps_q 7 _ rfl rfl rfl (QOp_assign _ _ rfl rfl) ?_
    refine AOps_nil ?_
    obtain ⟨s16, hss16, hks16⟩ := bindO h
    clear h
    refine ACode_seqJ (fun E' H' => Weak 47 G E' H' [(7, .vec 0 0)] [.vec 0 (intsD s16)]) ?_ ?_
    · have h := hss16
      clear hss16
      refine ACode_seq (ACode_region ?_)
      refine AOps_q 8 _ rfl rfl rfl (QOp_assign _ _ rfl rfl) ?_
      refine AOps_nil ?_
      refine ACode_block ?_
      refine ACode_loopW (fun k0 E H => ∃ (x3 : Int) (x4 : List Int), E = [(1, iV p1), (2, .d (.pv (colD p0) 0)), (7, .vec 0 0), (8, iV x3)] ∧ H = [.vec 0 (intsD x4)] ∧ spec_UpLengths_l0 k p0 p1 k0 x3 x4 = some s16) k _ _ (Weak_keep 0 hm [1, 2, 7, 8] [0] _ _ rfl rfl rfl) ⟨_, _, rfl, rfl, h⟩ ?_
      clear h
      rintro k0 E H ⟨x3, x4, rfl, rfl, h⟩
      cases k0 with
      | zero => cases (show (none : Option (List Int)) = some _ from h)
      | succ k0 =>
        rw [spec_UpLengths_l0] at h
        refine ACode_seq ?_
        refine ACode_seq (ACode_region ?_)
        refine AOps_q 18 _ rfl rfl rfl (QOp_move _ _ rfl rfl) ?_
        refine AOps_q 19 _ rfl rfl rfl (QOp_fieldAddr_pv _ _ _ _ _ 0 _ _ rfl Try.underlying26 rfl _ Try.sizeOf2 rfl rfl) ?_
        refine AOps_q 20 _ rfl rfl rfl (QOp_load_pv _ _ _ _ _ rfl Try.isAgg2 rfl rfl) ?_
        refine AOps_q 21 _ rfl rfl rfl (QOp_lss _ _ _ _ _ _ _ rfl rfl rfl) ?_
        refine AOps_nil ?_
        refine ACode_cond _ rfl (fun hb5 => ?_) (fun hb5 => ?_)
        · have h := iteT hb5 h
          refine ACode_skip ?_
          obtain ⟨s15, hss15, hks15⟩ := bindO h
          clear h
          refine ACode_seqJ (fun E' H' => Weak 47 G E' H' [(1, iV p1), (2, .d (.pv (colD p0) 0)), (7, .vec 0 0), (8, iV x3)] [.vec 0 (intsD s15)]) ?_ ?_
          · have h := hss15
            clear hss15
            refine ACode_block ?_
            refine ACode_seq (ACode_region ?_)
            refine AOps_q 9 _ rfl rfl rfl (QOp_assign _ _ rfl rfl) ?_
            refine AOps_nil ?_
            obtain ⟨s13, hss13, hks13⟩ := bindO h
            clear h
            refine ACode_seqJ (fun E' H' => Weak 47 G E' H' [(1, iV p1), (2, .d (.pv (colD p0) 0)), (7, .vec 0 0), (8, iV x3), (9, iV s13)] [.vec 0 (intsD x4)]) ?_ ?_
            · have h := hss13
              clear hss13
              refine ACode_seq (ACode_region ?_)
              refine AOps_q 10 _ rfl rfl rfl (QOp_assign _ _ rfl rfl) ?_
              refine AOps_nil ?_
              refine ACode_block ?_
              refine ACode_loopW (fun k1 E H => ∃ (x6 : Int) (x7 : Int), E = [(1, iV p1), (2, .d (.pv (colD p0) 0)), (7, .vec 0 0), (8, iV x3), (9, iV x6), (10, iV x7)] ∧ H = [.vec 0 (intsD x4)] ∧ spec_UpLengths_l1 p0 p1 x3 x4 k1 x6 x7 = some s13) k _ _ (Weak_keep 0 hm [1, 2, 7, 8, 9, 10] [0] _ _ rfl rfl rfl) ⟨_, _, rfl, rfl, h⟩ ?_
              clear h
              rintro k1 E H ⟨x6, x7, rfl, rfl, h⟩
              cases k1 with
              | zero => cases (show (none : Option (Int)) = some _ from h)
              | succ k1 =>
                rw [spec_UpLengths_l1] at h
                refine ACode_seq ?_
                refine ACode_seq (ACode_region ?_)
                refine AOps_q 24 _ rfl rfl rfl (QOp_move _ _ rfl rfl) ?_
                refine AOps_q 25 _ rfl rfl rfl (QOp_move _ _ rfl rfl) ?_
                refine AOps_q 26 _ rfl rfl rfl (QOp_lss _ _ _ _ _ _ _ rfl rfl rfl) ?_
                refine AOps_nil ?_
                refine ACode_cond _ rfl (fun hb8 => ?_) (fun hb8 => ?_)
                · have h := iteT hb8 h
                  refine ACode_skip ?_
                  obtain ⟨s12, hss12, hks12⟩ := bindO h
                  clear h
                  refine ACode_seqJ (fun E' H' => Weak 47 G E' H' [(1, iV p1), (2, .d (.pv (colD p0) 0)), (7, .vec 0 0), (8, iV x3), (9, iV s12), (10, iV x7)] [.vec 0 (intsD x4)]) ?_ ?_
                  · have h := hss12
                    clear hss12
                    refine ACode_block ?_
                    refine ACode_seq (ACode_region ?_)
                    refine AOps_q 29 _ rfl rfl rfl (QOp_loadN_pv _ _ _ _ _ _ rfl Try.isAgg26 Try.sizeOf26 rfl (colD_all _) (colD_length _)) ?_
                    refine AOps_q 30 _ rfl rfl rfl (QOp_move _ _ rfl rfl) ?_
                    refine AOps_q 31 _ rfl rfl rfl (QOp_move _ _ rfl rfl) ?_
                    obtain ⟨r9, hr9, h⟩ := bindO h
                    refine AOps_call [] 32 _ _ _ _ _ _ _ _ _ _ rfl rfl rfl rfl rfl rfl rfl Try.call54 rfl (nodupB_sound _ rfl) rfl rfl rfl (spec_l01At_ac p0 x7 x3 _ hr9) ?_
                    rintro _ _ ⟨rfl, rfl⟩
                    refine ⟨(fun _ h => nomatch h), (allc (trivial) (fun _ h => nomatch h)), AOps_as 32 (v' := iV r9) (H' := [.vec 0 (intsD x4)]) rfl rfl ?_⟩
                    refine AOps_q 33 _ rfl rfl rfl (QOp_move _ _ rfl rfl) ?_
                    refine AOps_q 34 _ rfl rfl rfl (QOp_eql _ _ _ _ _ _ _ rfl rfl rfl) ?_
                    refine AOps_nil ?_
                    refine ACode_cond _ rfl (fun hb10 => ?_) (fun hb10 => ?_)
                    · have h := iteT hb10 h
                      refine (ACode_region ?_)
                      refine AOps_q 35 _ rfl rfl rfl (QOp_move _ _ rfl rfl) ?_
                      refine AOps_q 36 _ rfl rfl rfl (QOp_move _ _ rfl rfl) ?_
                      refine AOps_q 37 _ rfl rfl rfl (QOp_move _ _ rfl rfl) ?_
                      obtain ⟨hc11, h⟩ := guardO h
                      refine AOps_q 38 _ rfl rfl rfl (QOp_indexAddr_vec _ _ _ _ _ _ _ _ _ rfl Try.underlying29 Try.sizeOf2 hc11.1 (by rw [intsD_length]; exact hc11.2) rfl rfl rfl) ?_
                      refine AOps_q 39 _ rfl rfl rfl (QOp_load_eptr _ _ _ _ _ _ _ rfl Try.isAgg2 rfl rfl (intsD_get _ _ 0 (by omega))) ?_
                      refine AOps_q 40 _ rfl rfl rfl (QOp_add _ _ _ _ _ _ _ rfl rfl rfl) ?_
                      refine AOps_q 41 _ rfl rfl rfl (QOp_max _ _ _ _ _ _ rfl rfl rfl rfl rfl) ?_
                      refine AOps_q 9 _ rfl rfl rfl (QOp_assign _ _ rfl rfl) ?_
                      refine AOps_nil ?_
                      cases h
                      exact Weak_keep 0 hm [1, 2, 7, 8, 9, 10] [0] _ _ rfl rfl rfl
                    · have h := iteF hb10 h
                      refine ACode_skip ?_
                      cases h
                      exact Weak_keep 0 hm [1, 2, 7, 8, 9, 10] [0] _ _ rfl rfl rfl
                  intro E' H' hw
                  refine ACode_weak hw ?_
                  have h := hks12
                  refine (ACode_region ?_)
                  refine AOps_q 27 _ rfl rfl rfl (QOp_move _ _ rfl rfl) ?_
                  refine AOps_q 28 _ rfl rfl rfl (QOp_add _ _ _ _ _ _ _ rfl rfl rfl) ?_
                  refine AOps_q 10 _ rfl rfl rfl (QOp_assign _ _ rfl rfl) ?_
                  refine AOps_nil ?_
                  exact ⟨k1, _, _, Nat.lt_succ_self _, Weak_keep 0 hm [1, 2, 7, 8, 9, 10] [0] _ _ rfl rfl rfl, _, _, rfl, rfl, h⟩
                · have h := iteF hb8 h
                  refine ACode_exit ?_
                  cases h
                  exact Weak_keep 0 hm [1, 2, 7, 8, 9] [0] _ _ rfl rfl rfl
            intro E' H' hw
            refine ACode_weak hw ?_
            have h := hks13
            refine (ACode_region ?_)
            refine AOps_q 42 _ rfl rfl rfl (QOp_move _ _ rfl rfl) ?_
            refine AOps_q 43 _ rfl rfl rfl (QOp_move _ _ rfl rfl) ?_
            refine AOps_buildSlice 44 _ _ _ [_] (intsD ([s13])) _ rfl rfl rfl rfl rfl (by decide) Try.underlying29 Try.sizeOf2 (zero_of Try.typeInfo2 rfl) rfl rfl (intsD_one _) ?_
            obtain ⟨hc14, h⟩ := guardO h
            refine AOps_append 45 _ _ _ _ _ _ _ _ _ _ _ _ rfl rfl rfl rfl rfl rfl rfl Try.underlying29 Try.type2 rfl rfl rfl (by decide) rfl rfl rfl rfl (intsD_one _) (by rw [intsD_length, intsD_length]; exact hc14) ?_
            rw [intsD_app]
            refine AOps_q 7 _ rfl rfl rfl (QOp_assign _ _ rfl rfl) ?_
            refine AOps_nil ?_
            cases h
            exact Weak_trans (Weak_keep 0 hm [1, 2, 7, 8] [0] _ _ rfl rfl rfl) (Weak_reset 0 hm hz [1, 2, 7, 8] _ _ rfl rfl)
          intro E' H' hw
          refine ACode_weak hw ?_
          have h := hks15
          refine (ACode_region ?_)
          refine AOps_q 22 _ rfl rfl rfl (QOp_move _ _ rfl rfl) ?_
          refine AOps_q 23 _ rfl rfl rfl (QOp_add _ _ _ _ _ _ _ rfl rfl rfl) ?_
          refine AOps_q 8 _ rfl rfl rfl (QOp_assign _ _ rfl rfl) ?_
          refine AOps_nil ?_
          exact ⟨k0, _, _, Nat.lt_succ_self _, Weak_keep 0 hm [1, 2, 7, 8] [0] _ _ rfl rfl rfl, _, _, rfl, rfl, h⟩
        · have h := iteF hb5 h
          refine ACode_exit ?_
          cases h
          exact Weak_keep 0 hm [7] [0] _ _ rfl rfl rfl
    intro E' H' hw
    refine ACode_weak hw ?_
    have h := hks16
    refine ACode_seq (ACode_region ?_)
    refine AOps_q 46 _ rfl rfl rfl (QOp_move _ _ rfl rfl) ?_
    refine AOps_q 4 _ rfl rfl rfl (QOp_assign _ _ rfl rfl) ?_
    refine AOps_q 5 _ rfl rfl rfl (QOp_assign _ _ rfl rfl) ?_
    refine AOps_nil ?_
    refine ACode_ret ?_
    cases h
    exact ⟨_, _, fun r a w h => ⟨r, h⟩, _, _, [], _, (.cons (ResV_tmp _ _ rfl) (.cons (ResV_tmp _ _ rfl) .nil)), rfl, rfl, rfl, rfl, rfl⟩

-- (*loop.example/g01362/impl.Colouring).isClosedColour
def impl_Colouring_isClosedColour_l2 (p0 : Col) (p1 : Int) (x1 : Int) (x3 : Int) : Nat → Int → Option (Sum (Unit) (Sum (Unit) (Sum (Unit) (Bool))))
  | 0, _ => none
  | k2 + 1, x5 => (if decide (x5 < x3) then (((impl_Colouring_at p0 x5 x3).bind fun r7 => (if decide (r7 = p1) then (impl_Colouring_at p0 x3 x1).bind fun r9 => (if decide (r9 = p1) then (impl_Colouring_at p0 x5 x1).bind fun r11 => some (!decide (r11 = p1)) else some false) else some false) : Option (Bool)).bind fun s12 => (if s12 then (((some (.inr false)).bind fun rr => some (.inr rr)).bind fun rr => some (.inr rr)).bind fun rr => some (.inr rr) else some (.inl ())) : Option (Sum (Unit) (Sum (Unit) (Sum (Unit) (Sum (Unit) (Bool)))))).bind fun os14 => (match os14 with | .inl s14 => impl_Colouring_isClosedColour_l2 p0 p1 x1 x3 k2 (w64 (x5 + 1)) | .inr rr => some rr) else some (.inl ()))
def impl_Colouring_isClosedColour_l1 (k : Nat) (p0 : Col) (p1 : Int) (x1 : Int) : Nat → Int → Option (Sum (Unit) (Sum (Unit) (Bool)))
  | 0, _ => none
  | k1 + 1, x3 => (if decide (x3 < x1) then (impl_Colouring_isClosedColour_l2 p0 p1 x1 x3 k 0 : Option (Sum (Unit) (Sum (Unit) (Sum (Unit) (Bool))))).bind fun os15 => (match os15 with | .inl s15 => impl_Colouring_isClosedColour_l1 k p0 p1 x1 k1 (w64 (x3 + 1)) | .inr rr => some rr) else some (.inl ()))
def impl_Colouring_isClosedColour_l0 (k : Nat) (p0 : Col) (p1 : Int) : Nat → Int → Option (Sum (Unit) (Bool))
  | 0, _ => none
  | k0 + 1, x1 => (if decide (x1 < p0.p) then (impl_Colouring_isClosedColour_l1 k p0 p1 x1 k 0 : Option (Sum (Unit) (Sum (Unit) (Bool)))).bind fun os16 => (match os16 with | .inl s16 => impl_Colouring_isClosedColour_l0 k p0 p1 k0 (w64 (x1 + 1)) | .inr rr => some rr) else some (.inl ()))
def impl_Colouring_isClosedColour (k : Nat) (p0 : Col) (p1 : Int) : Option (Bool) :=
  (impl_Colouring_isClosedColour_l0 k p0 p1 k 0 : Option (Sum (Unit) (Bool))).bind fun os17 => (match os17 with | .inl s17 => some true | .inr rr => some rr)
set_option maxRecDepth 100000 in
theorem impl_Colouring_isClosedColour_ac (k : Nat) (p0 : Col) (p1 : Int) (r : Bool) (h : impl_Colouring_isClosedColour k p0 p1 = some r) : AC Try.prog 55 [.d (.pv (colD p0) 0), iV p1] [] (fun res H' => res = [bV r] ∧ H' = []) := by
  refine AC_of_body true Try.func55 rfl Try.ntmps55 (rvs := [.tmp 4]) rfl rfl (fun G hG => ?_)
  have hm : G.H.length = 0 := by rw [hG]; rfl
  have hz : zeroG G.H = true := by rw [hG]; rfl
  unfold impl_Colouring_isClosedColour at h
  refine ACode_seq (ACode_region ?_)
  refine AOps_q 4 _ rfl rfl rfl (QOp_assign _ _ rfl rfl) ?_
  refine AOps_nil ?_
  obtain ⟨os17, hss17, hks17⟩ := bindO h
  clear h
  refine ACode_seqJ (fun E' H' => ∃ s17 : Unit, os17 = .inl s17 ∧ Weak 48 G E' H' [] []) ?_ ?_
  · have h := hss17
    clear hss17
    refine ACode_seq (ACode_region ?_)
    refine AOps_q 8 _ rfl rfl rfl (QOp_move _ _ rfl rfl) ?_
    refine AOps_q 9 _ rfl rfl rfl (QOp_nilCheck_pv _ _ _ rfl rfl) ?_
    refine AOps_q 10 _ rfl rfl rfl (QOp_fieldAddr_pv _ _ _ _ _ 0 _ _ rfl Try.underlying26 rfl _ Try.sizeOf2 rfl rfl) ?_
    refine AOps_q 11 _ rfl rfl rfl (QOp_load_pv _ _ _ _ _ rfl Try.isAgg2 rfl rfl) ?_
    refine AOps_q 12 _ rfl rfl rfl (QOp_move _ _ rfl rfl) ?_
    refine AOps_nil ?_
    refine ACode_block ?_
    refine ACode_loopW (fun k0 E H => ∃ (x1 : Int), E = [(0, .d (.pv (colD p0) 0)), (1, iV p1), (11, iV p0.p), (12, iV x1)] ∧ H = [] ∧ impl_Colouring_isClosedColour_l0 k p0 p1 k0 x1 = some os17) k _ _ (Weak_keep 0 hm [0, 1, 11, 12] [] _ _ rfl rfl rfl) ⟨_, rfl, rfl, h⟩ ?_
    clear h
    rintro k0 E H ⟨x1, rfl, rfl, h⟩
    cases k0 with
    | zero => cases (show (none : Option (Sum (Unit) (Bool))) = some _ from h)
    | succ k0 =>
      rw [impl_Colouring_isClosedColour_l0] at h
      refine ACode_seq (ACode_region ?_)
      refine AOps_q 13 _ rfl rfl rfl (QOp_lss _ _ _ _ _ _ _ rfl rfl rfl) ?_
      refine AOps_nil ?_
      refine ACode_seq ?_
      refine ACode_cond _ rfl (fun hb2 => ?_) (fun hb2 => ?_)
      · have h := iteT hb2 h
        refine ACode_skip ?_
        obtain ⟨os16, hss16, hks16⟩ := bindO h
        clear h
        refine ACode_seqJ (fun E' H' => ∃ s16 : Unit, os16 = .inl s16 ∧ Weak 48 G E' H' [(0, .d (.pv (colD p0) 0)), (1, iV p1), (11, iV p0.p), (12, iV x1)] []) ?_ ?_
        · have h := hss16
          clear hss16
          refine ACode_block ?_
          refine ACode_seq (ACode_region ?_)
          refine AOps_q 14 _ rfl rfl rfl (QOp_move _ _ rfl rfl) ?_
          refine AOps_q 5 _ rfl rfl rfl (QOp_assign _ _ rfl rfl) ?_
          refine AOps_nil ?_
          refine ACode_seq (ACode_region ?_)
          refine AOps_q 15 _ rfl rfl rfl (QOp_move _ _ rfl rfl) ?_
          refine AOps_q 16 _ rfl rfl rfl (QOp_move _ _ rfl rfl) ?_
          refine AOps_nil ?_
          refine ACode_block ?_
          refine ACode_loopW (fun k1 E H => ∃ (x3 : Int), E = [(0, .d (.pv (colD p0) 0)), (1, iV p1), (5, iV x1), (11, iV p0.p), (12, iV x1), (15, iV x1), (16, iV x3)] ∧ H = [] ∧ impl_Colouring_isClosedColour_l1 k p0 p1 x1 k1 x3 = some os16) k _ _ (Weak_keep 0 hm [0, 1, 5, 11, 12, 15, 16] [] _ _ rfl rfl rfl) ⟨_, rfl, rfl, h⟩ ?_
          clear h
          rintro k1 E H ⟨x3, rfl, rfl, h⟩
          cases k1 with
          | zero => cases (show (none : Option (Sum (Unit) (Sum (Unit) (Bool)))) = some _ from h)
          | succ k1 =>
            rw [impl_Colouring_isClosedColour_l1] at h
            refine ACode_seq (ACode_region ?_)
            refine AOps_q 17 _ rfl rfl rfl (QOp_lss _ _ _ _ _ _ _ rfl rfl rfl) ?_
            refine AOps_nil ?_
            refine ACode_seq ?_
            refine ACode_cond _ rfl (fun hb4 => ?_) (fun hb4 => ?_)
            · have h := iteT hb4 h
              refine ACode_skip ?_
              obtain ⟨os15, hss15, hks15⟩ := bindO h
              clear h
              refine ACode_seqJ (fun E' H' => ∃ s15 : Unit, os15 = .inl s15 ∧ Weak 48 G E' H' [(0, .d (.pv (colD p0) 0)), (1, iV p1), (5, iV x1), (11, iV p0.p), (12, iV x1), (15, iV x1), (16, iV x3)] []) ?_ ?_
              · have h := hss15
                clear hss15
                refine ACode_block ?_
                refine ACode_seq (ACode_region ?_)
                refine AOps_q 18 _ rfl rfl rfl (QOp_move _ _ rfl rfl) ?_
                refine AOps_q 6 _ rfl rfl rfl (QOp_assign _ _ rfl rfl) ?_
                refine AOps_nil ?_
                refine ACode_seq (ACode_region ?_)
                refine AOps_q 19 _ rfl rfl rfl (QOp_move _ _ rfl rfl) ?_
                refine AOps_q 20 _ rfl rfl rfl (QOp_move _ _ rfl rfl) ?_
                refine AOps_nil ?_
                refine ACode_block ?_
                refine ACode_loopW (fun k2 E H => ∃ (x5 : Int), E = [(0, .d (.pv (colD p0) 0)), (1, iV p1), (5, iV x1), (6, iV x3), (11, iV p0.p), (12, iV x1), (15, iV x1), (16, iV x3), (19, iV x3), (20, iV x5)] ∧ H = [] ∧ impl_Colouring_isClosedColour_l2 p0 p1 x1 x3 k2 x5 = some os15) k _ _ (Weak_keep 0 hm [0, 1, 5, 6, 11, 12, 15, 16, 19, 20] [] _ _ rfl rfl rfl) ⟨_, rfl, rfl, h⟩ ?_
                clear h
                rintro k2 E H ⟨x5, rfl, rfl, h⟩
                cases k2 with
                | zero => cases (show (none : Option (Sum (Unit) (Sum (Unit) (Sum (Unit) (Bool))))) = some _ from h)
                | succ k2 =>
                  rw [impl_Colouring_isClosedColour_l2] at h
                  refine ACode_seq (ACode_region ?_)
                  refine AOps_q 21 _ rfl rfl rfl (QOp_lss _ _ _ _ _ _ _ rfl rfl rfl) ?_
                  refine AOps_nil ?_
                  refine ACode_seq ?_
                  refine ACode_cond _ rfl (fun hb6 => ?_) (fun hb6 => ?_)
                  · have h := iteT hb6 h
                    refine ACode_skip ?_
                    obtain ⟨os14, hss14, hks14⟩ := bindO h
                    clear h
                    refine ACode_seqJ (fun E' H' => ∃ s14 : Unit, os14 = .inl s14 ∧ Weak 48 G E' H' [(0, .d (.pv (colD p0) 0)), (1, iV p1), (5, iV x1), (6, iV x3), (11, iV p0.p), (12, iV x1), (15, iV x1), (16, iV x3), (19, iV x3), (20, iV x5)] []) ?_ ?_
                    · have h := hss14
                      clear hss14
                      refine ACode_block ?_
                      refine ACode_seq (ACode_region ?_)
                      refine AOps_q 22 _ rfl rfl rfl (QOp_move _ _ rfl rfl) ?_
                      refine AOps_q 7 _ rfl rfl rfl (QOp_assign _ _ rfl rfl) ?_
                      refine AOps_nil ?_
                      obtain ⟨s12, hss12, hks12⟩ := bindO h
                      clear h
                      refine ACode_seqJ (fun E' H' => Weak 48 G E' H' [(0, .d (.pv (colD p0) 0)), (1, iV p1), (5, iV x1), (6, iV x3), (11, iV p0.p), (12, iV x1), (15, iV x1), (16, iV x3), (19, iV x3), (20, iV x5), (44, bV s12)] []) ?_ ?_
                      · have h := hss12
                        clear hss12
                        refine (ACode_region ?_)
                        refine AOps_q 23 _ rfl rfl rfl (QOp_move _ _ rfl rfl) ?_
                        refine AOps_q 24 _ rfl rfl rfl (QOp_move _ _ rfl rfl) ?_
                        refine AOps_q 25 _ rfl rfl rfl (QOp_move _ _ rfl rfl) ?_
                        obtain ⟨r7, hr7, h⟩ := bindO h
                        refine AOps_call [] 26 _ _ _ _ _ _ _ _ _ _ rfl rfl rfl rfl rfl rfl rfl Try.call51 rfl (nodupB_sound _ rfl) rfl rfl rfl (impl_Colouring_at_ac p0 x5 x3 _ hr7) ?_
                        rintro _ _ ⟨rfl, rfl⟩
                        refine ⟨(fun _ h => nomatch h), (allc (trivial) (fun _ h => nomatch h)), AOps_as 26 (v' := iV r7) (H' := []) rfl rfl ?_⟩
                        refine AOps_q 27 _ rfl rfl rfl (QOp_move _ _ rfl rfl) ?_
                        refine AOps_q 28 _ rfl rfl rfl (QOp_eql _ _ _ _ _ _ _ rfl rfl rfl) ?_
                        refine AOps_q 29 _ rfl rfl rfl (QOp_move _ _ rfl rfl) ?_
                        refine AOps_case 29 _ rfl (fun hb8 => ?_) (fun hb8 => ?_)
                        · have h := iteT hb8 h
                          refine AOps_q 30 _ rfl rfl rfl (QOp_move _ _ rfl rfl) ?_
                          refine AOps_q 31 _ rfl rfl rfl (QOp_move _ _ rfl rfl) ?_
                          refine AOps_q 32 _ rfl rfl rfl (QOp_move _ _ rfl rfl) ?_
                          obtain ⟨r9, hr9, h⟩ := bindO h
                          refine AOps_call [] 33 _ _ _ _ _ _ _ _ _ _ rfl rfl rfl rfl rfl rfl rfl Try.call51 rfl (nodupB_sound _ rfl) rfl rfl rfl (impl_Colouring_at_ac p0 x3 x1 _ hr9) ?_
                          rintro _ _ ⟨rfl, rfl⟩
                          refine ⟨(fun _ h => nomatch h), (allc (trivial) (fun _ h => nomatch h)), AOps_as 33 (v' := iV r9) (H' := []) rfl rfl ?_⟩
                          refine AOps_q 34 _ rfl rfl rfl (QOp_move _ _ rfl rfl) ?_
                          refine AOps_q 35 _ rfl rfl rfl (QOp_eql _ _ _ _ _ _ _ rfl rfl rfl) ?_
                          refine AOps_q 36 _ rfl rfl rfl (QOp_pick_t _ _ _ _ rfl rfl rfl) ?_
                          refine AOps_q 37 _ rfl rfl rfl (QOp_move _ _ rfl rfl) ?_
                          refine AOps_case 37 _ rfl (fun hb10 => ?_) (fun hb10 => ?_)
                          · have h := iteT hb10 h
                            refine AOps_q 38 _ rfl rfl rfl (QOp_move _ _ rfl rfl) ?_
                            refine AOps_q 39 _ rfl rfl rfl (QOp_move _ _ rfl rfl) ?_
                            refine AOps_q 40 _ rfl rfl rfl (QOp_move _ _ rfl rfl) ?_
                            obtain ⟨r11, hr11, h⟩ := bindO h
                            refine AOps_call [] 41 _ _ _ _ _ _ _ _ _ _ rfl rfl rfl rfl rfl rfl rfl Try.call51 rfl (nodupB_sound _ rfl) rfl rfl rfl (impl_Colouring_at_ac p0 x5 x1 _ hr11) ?_
                            rintro _ _ ⟨rfl, rfl⟩
                            refine ⟨(fun _ h => nomatch h), (allc (trivial) (fun _ h => nomatch h)), AOps_as 41 (v' := iV r11) (H' := []) rfl rfl ?_⟩
                            refine AOps_q 42 _ rfl rfl rfl (QOp_move _ _ rfl rfl) ?_
                            refine AOps_q 43 _ rfl rfl rfl (QOp_neq _ _ _ _ _ _ _ rfl rfl rfl) ?_
                            refine AOps_q 44 _ rfl rfl rfl (QOp_pick_t _ _ _ _ rfl rfl rfl) ?_
                            refine AOps_nil ?_
                            cases h
                            exact Weak_keep 0 hm [0, 1, 5, 6, 11, 12, 15, 16, 19, 20, 44] [] _ _ rfl rfl rfl
                          · have h := iteF hb10 h
                            refine AOps_skip 38 rfl rfl rfl ?_
                            refine AOps_skip 39 rfl rfl rfl ?_
                            refine AOps_skip 40 rfl rfl rfl ?_
                            refine AOps_skip 41 rfl rfl rfl ?_
                            refine AOps_skip 42 rfl rfl rfl ?_
                            refine AOps_skip 43 rfl rfl rfl ?_
                            refine AOps_q 44 _ rfl rfl rfl (QOp_pick_f _ _ _ _ rfl rfl rfl) ?_
                            refine AOps_nil ?_
                            cases h
                            exact Weak_keep 0 hm [0, 1, 5, 6, 11, 12, 15, 16, 19, 20, 44] [] _ _ rfl rfl rfl
                        · have h := iteF hb8 h
                          refine AOps_skip 30 rfl rfl rfl ?_
                          refine AOps_skip 31 rfl rfl rfl ?_
                          refine AOps_skip 32 rfl rfl rfl ?_
                          refine AOps_skip 33 rfl rfl rfl ?_
                          refine AOps_skip 34 rfl rfl rfl ?_
                          refine AOps_skip 35 rfl rfl rfl ?_
                          refine AOps_q 36 _ rfl rfl rfl (QOp_pick_f _ _ _ _ rfl rfl rfl) ?_
                          refine AOps_q 37 _ rfl rfl rfl (QOp_move _ _ rfl rfl) ?_
                          refine AOps_skip 38 rfl rfl rfl ?_
                          refine AOps_skip 39 rfl rfl rfl ?_
                          refine AOps_skip 40 rfl rfl rfl ?_
                          refine AOps_skip 41 rfl rfl rfl ?_
                          refine AOps_skip 42 rfl rfl rfl ?_
                          refine AOps_skip 43 rfl rfl rfl ?_
                          refine AOps_q 44 _ rfl rfl rfl (QOp_pick_f _ _ _ _ rfl rfl rfl) ?_
                          refine AOps_nil ?_
                          cases h
                          exact Weak_keep 0 hm [0, 1, 5, 6, 11, 12, 15, 16, 19, 20, 44] [] _ _ rfl rfl rfl
                      intro E' H' hw
                      refine ACode_weak hw ?_
                      have h := hks12
                      refine ACode_cond _ rfl (fun hb13 => ?_) (fun hb13 => ?_)
                      · have h := iteT hb13 h
                        refine ACode_seq (ACode_region ?_)
                        refine AOps_q 4 _ rfl rfl rfl (QOp_assign _ _ rfl rfl) ?_
                        refine AOps_nil ?_
                        refine ACode_ret ?_
                        obtain ⟨rr, hz20, h2⟩ := bindO h
                        obtain rfl := Option.some.inj h2
                        obtain rfl := Option.some.inj (show some rr = some _ from hks14)
                        have h := hz20
                        obtain ⟨rr, hz19, h2⟩ := bindO h
                        obtain rfl := Option.some.inj h2
                        obtain rfl := Option.some.inj (show some rr = some _ from hks15)
                        have h := hz19
                        obtain ⟨rr, hz18, h2⟩ := bindO h
                        obtain rfl := Option.some.inj h2
                        obtain rfl := Option.some.inj (show some rr = some _ from hks16)
                        have h := hz18
                        cases h
                        have h := hks17
                        cases h
                        exact ⟨_, _, fun r a w h => ⟨r, h⟩, _, _, [], _, (.cons (ResV_tmp _ _ rfl) .nil), rfl, rfl, rfl, rfl, rfl⟩
                      · have h := iteF hb13 h
                        refine ACode_skip ?_
                        cases h
                        exact ⟨_, rfl, Weak_keep 0 hm [0, 1, 5, 6, 11, 12, 15, 16, 19, 20] [] _ _ rfl rfl rfl⟩
                    rintro E' H' ⟨s14, rfl, hw⟩
                    refine ACode_weak hw ?_
                    have h := hks14
                    refine (ACode_region ?_)
                    refine AOps_q 45 _ rfl rfl rfl (QOp_add _ _ _ _ _ _ _ rfl rfl rfl) ?_
                    refine AOps_q 20 _ rfl rfl rfl (QOp_move _ _ rfl rfl) ?_
                    refine AOps_nil ?_
                    exact ⟨k2, _, _, Nat.lt_succ_self _, Weak_keep 0 hm [0, 1, 5, 6, 11, 12, 15, 16, 19, 20] [] _ _ rfl rfl rfl, _, rfl, rfl, h⟩
                  · have h := iteF hb6 h
                    refine ACode_exit ?_
                    cases h
                    exact ⟨_, rfl, Weak_keep 0 hm [0, 1, 5, 11, 12, 15, 16] [] _ _ rfl rfl rfl⟩
              rintro E' H' ⟨s15, rfl, hw⟩
              refine ACode_weak hw ?_
              have h := hks15
              refine (ACode_region ?_)
              refine AOps_q 46 _ rfl rfl rfl (QOp_add _ _ _ _ _ _ _ rfl rfl rfl) ?_
              refine AOps_q 16 _ rfl rfl rfl (QOp_move _ _ rfl rfl) ?_
              refine AOps_nil ?_
              exact ⟨k1, _, _, Nat.lt_succ_self _, Weak_keep 0 hm [0, 1, 5, 11, 12, 15, 16] [] _ _ rfl rfl rfl, _, rfl, rfl, h⟩
            · have h := iteF hb4 h
              refine ACode_exit ?_
              cases h
              exact ⟨_, rfl, Weak_keep 0 hm [0, 1, 11, 12] [] _ _ rfl rfl rfl⟩
        rintro E' H' ⟨s16, rfl, hw⟩
        refine ACode_weak hw ?_
        have h := hks16
        refine (ACode_region ?_)
        refine AOps_q 47 _ rfl rfl rfl (QOp_add _ _ _ _ _ _ _ rfl rfl rfl) ?_
        refine AOps_q 12 _ rfl rfl rfl (QOp_move _ _ rfl rfl) ?_
        refine AOps_nil ?_
        exact ⟨k0, _, _, Nat.lt_succ_self _, Weak_keep 0 hm [0, 1, 11, 12] [] _ _ rfl rfl rfl, _, rfl, rfl, h⟩
      · have h := iteF hb2 h
        refine ACode_exit ?_
        cases h
        exact ⟨_, rfl, Weak_keep 0 hm [] [] _ _ rfl rfl rfl⟩
  rintro E' H' ⟨s17, rfl, hw⟩
  refine ACode_weak hw ?_
  have h := hks17
  refine ACode_seq (ACode_region ?_)
  refine AOps_q 4 _ rfl rfl rfl (QOp_assign _ _ rfl rfl) ?_
  refine AOps_nil ?_
  refine ACode_ret ?_
  cases h
  exact ⟨_, _, fun r a w h => ⟨r, h⟩, _, _, [], _, (.cons (ResV_tmp _ _ rfl) .nil), rfl, rfl, rfl, rfl, rfl⟩

-- loop.example/g01362/impl.IsClosedColour
def impl_IsClosedColour (k : Nat) (p0 : Col) (p1 : Int) : Option (Bool × Int) :=
  (impl_Colouring_colourCode k p0 p1 true).bind fun r1 => (if !decide (r1 = 0) then some (false, r1) else (impl_Colouring_isClosedColour k p0 p1).bind fun r3 => some (r3, 0))
set_option maxRecDepth 100000 in
theorem impl_IsClosedColour_ac (k : Nat) (p0 : Col) (p1 : Int) (r : Bool × Int) (h : impl_IsClosedColour k p0 p1 = some r) : AC Try.prog 13 [.d (.agg (colD p0)), iV p1] [] (fun res H' => res = [bV r.1, iV r.2] ∧ H' = []) := by
  refine AC_of_body true Try.func13 rfl Try.ntmps13 (rvs := [.tmp 4, .tmp 5]) rfl rfl (fun G hG => ?_)
  have hm : G.H.length = 0 := by rw [hG]; rfl
  have hz : zeroG G.H = true := by rw [hG]; rfl
  unfold impl_IsClosedColour at h
  refine ACode_seq (ACode_region ?_)
  refine AOps_boxI 2 _ _ (.agg (colD p0)) (colD p0) rfl (colD_one _) rfl rfl rfl rfl rfl ?_
  refine AOps_q 4 _ rfl rfl rfl (QOp_assign _ _ rfl rfl) ?_
  refine AOps_q 5 _ rfl rfl rfl (QOp_assign _ _ rfl rfl) ?_
  refine AOps_nil ?_
  refine ACode_seq ?_
  refine ACode_seq (ACode_region ?_)
  refine AOps_q 7 _ rfl rfl rfl (QOp_move _ _ rfl rfl) ?_
  obtain ⟨r1, hr1, h⟩ := bindO h
  refine AOps_call [] 8 _ _ _ _ _ _ _ _ _ _ rfl rfl rfl rfl rfl rfl rfl Try.call48 rfl (nodupB_sound _ rfl) rfl rfl rfl (impl_Colouring_colourCode_ac k p0 p1 true _ hr1) ?_
  rintro _ _ ⟨rfl, rfl⟩
  refine ⟨(fun _ h => nomatch h), (allc (trivial) (fun _ h => nomatch h)), AOps_as 8 (v' := iV r1) (H' := []) rfl rfl ?_⟩
  refine AOps_q 6 _ rfl rfl rfl (QOp_assign _ _ rfl rfl) ?_
  refine AOps_nil ?_
  refine ACode_seq (ACode_region ?_)
  refine AOps_q 9 _ rfl rfl rfl (QOp_move _ _ rfl rfl) ?_
  refine AOps_q 10 _ rfl rfl rfl (QOp_neq _ _ _ _ _ _ _ rfl rfl rfl) ?_
  refine AOps_nil ?_
  refine ACode_cond _ rfl (fun hb2 => ?_) (fun hb2 => ?_)
  · have h := iteT hb2 h
    refine ACode_seq (ACode_region ?_)
    refine AOps_q 11 _ rfl rfl rfl (QOp_move _ _ rfl rfl) ?_
    refine AOps_q 4 _ rfl rfl rfl (QOp_assign _ _ rfl rfl) ?_
    refine AOps_q 5 _ rfl rfl rfl (QOp_assign _ _ rfl rfl) ?_
    refine AOps_nil ?_
    refine ACode_ret ?_
    cases h
    exact ⟨_, _, fun r a w h => ⟨r, h⟩, _, _, [], _, (.cons (ResV_tmp _ _ rfl) (.cons (ResV_tmp _ _ rfl) .nil)), rfl, rfl, rfl, rfl, rfl⟩
  · have h := iteF hb2 h
    refine ACode_skip ?_
    refine ACode_seq (ACode_region ?_)
    refine AOps_q 12 _ rfl rfl rfl (QOp_move _ _ rfl rfl) ?_
    obtain ⟨r3, hr3, h⟩ := bindO h
    refine AOps_call [] 13 _ _ _ _ _ _ _ _ _ _ rfl rfl rfl rfl rfl rfl rfl Try.call55 rfl (nodupB_sound _ rfl) rfl rfl rfl (impl_Colouring_isClosedColour_ac k p0 p1 _ hr3) ?_
    rintro _ _ ⟨rfl, rfl⟩
    refine ⟨(fun _ h => nomatch h), (allc (trivial) (fun _ h => nomatch h)), AOps_as 13 (v' := bV r3) (H' := []) rfl rfl ?_⟩
    refine AOps_q 4 _ rfl rfl rfl (QOp_assign _ _ rfl rfl) ?_
    refine AOps_q 5 _ rfl rfl rfl (QOp_assign _ _ rfl rfl) ?_
    refine AOps_nil ?_
    refine ACode_ret ?_
    cases h
    exact ⟨_, _, fun r a w h => ⟨r, h⟩, _, _, [], _, (.cons (ResV_tmp _ _ rfl) (.cons (ResV_tmp _ _ rfl) .nil)), rfl, rfl, rfl, rfl, rfl⟩

end Go.Proofs.Ytfpcopidcagdaaa
