/- Plain functions of the program and that the program computes them: printed by the own tool gen.py. No conditions. -/
import Derived.Test.YtmmiokljmfkoiaaDoorGen12a
set_option linter.unusedVariables false
set_option linter.unusedSimpArgs false
namespace Go.Proofs.YtmmiokljmfkoiaaDoor
open Go Go.RowKit Ab

-- loop.example/g01362/impl.ParsePosition
def impl_ParsePosition_l0 (r1 : ByteArray × ByteArray × Bool) : Nat → Bool → Int → (List Int) → Option (Bool × List Int)
  | 0, _, _, _ => none
  | k0 + 1, x3, x4, x5 => (if decide (x4 < (r1.2.1.size : Int)) then ((if 0 ≤ x4 ∧ x4 < ((r1.2.1 : ByteArray).size : Int) then letO (if x3 then decide (0 ≤ (indexB (⟨#[46, 48, 49]⟩ : ByteArray) ((r1.2.1 : ByteArray).data.toList.getD x4.toNat 0))) else false) fun (s10 : Bool) => (if x5.length + ([w64 ((indexB (⟨#[46, 48, 49]⟩ : ByteArray) ((r1.2.1 : ByteArray).data.toList.getD x4.toNat 0)) - 1)]).length ≤ 1099511627776 then some s10 else none) else none) : Option (Bool)).bind fun s12 => impl_ParsePosition_l0 r1 k0 s12 (w64 (x4 + 1)) (x5 ++ ([w64 ((indexB (⟨#[46, 48, 49]⟩ : ByteArray) ((r1.2.1 : ByteArray).data.toList.getD x4.toNat 0)) - 1)])) else some (x3, x5))
def impl_ParsePosition (k : Nat) (p0 : ByteArray) : Option (Int × Option (List Int) × Int) :=
  (strings_Cut p0 (⟨#[58]⟩ : ByteArray)).bind fun r1 => (readN r1.1).bind fun r2 => (impl_ParsePosition_l0 r1 k r2.2 0 ([] : List Int) : Option (Bool × List Int)).bind fun s13 => (((if !r1.2.2 then some true else (if !s13.1 then some true else (impl_IsPosition k r2.1 s13.2).bind fun r16 => some (!r16))) : Option (Bool)).bind fun s17 => (if s17 then some (.inr (0, none, 6)) else some (.inl ())) : Option (Sum (Unit) (Int × Option (List Int) × Int))).bind fun os19 => (match os19 with | .inl s19 => some (r2.1, some s13.2, 0) | .inr rr => some rr)
set_option maxRecDepth 100000 in
theorem impl_ParsePosition_ac (k : Nat) (p0 : ByteArray) (r : Int × Option (List Int) × Int) (h : impl_ParsePosition k p0 = some r) : ACg GK Tryd.prog 14 [.d (.s (.string p0))] [] (fun res H' => res = [iV r.1, ownA 0 (r.2.1.map intsD), iV r.2.2] ∧ H' = [] ++ ownH (r.2.1.map intsD)) := by
  refine AC_of_bodyG gok false Tryd.func14 rfl Tryd.ntmps14 (rvs := [.tmp 2, .tmp 3, .tmp 4]) rfl rfl (fun G hG hgl => ?_)
  have hm : G.H.length = 0 := by rw [hG]; rfl
  have hz : zeroG G.H = true := by rw [hG]; rfl
  unfold impl_ParsePosition at h
  refine ACode_seq (ACode_region ?_)
  refine AOps_q 2 _ rfl rfl rfl (QOp_assign _ _ rfl rfl) ?_
  refine AOps_q 3 _ rfl rfl rfl (QOp_assign _ _ rfl rfl) ?_
  refine AOps_q 4 _ rfl rfl rfl (QOp_assign _ _ rfl rfl) ?_
  refine AOps_nil ?_
  refine ACode_seq (ACode_region ?_)
  refine AOps_q 14 _ rfl rfl rfl (QOp_move _ _ rfl rfl) ?_
  obtain ⟨r1, hr1, h⟩ := bindO h
  refine AOps_call [] 15 _ _ _ _ _ _ _ _ _ _ rfl rfl rfl rfl rfl rfl rfl Tryd.call29 rfl (nodupB_sound _ rfl) rfl rfl rfl (strings_Cut_ac p0 (⟨#[58]⟩ : ByteArray) _ hr1) ?_
  rintro _ _ ⟨rfl, rfl⟩
  refine ⟨(fun _ h => nomatch h), (allc (trivial) (allc (trivial) (allc (trivial) (fun _ h => nomatch h)))), AOps_as 15 (v' := .tup [.d (.s (.string r1.1)), .d (.s (.string r1.2.1)), bV r1.2.2]) (H' := []) rfl rfl ?_⟩
  refine AOps_q 13 _ rfl rfl rfl (QOp_move _ _ rfl rfl) ?_
  refine AOps_q 16 _ rfl rfl rfl (QOp_extract _ _ _ _ rfl rfl rfl) ?_
  refine AOps_q 17 _ rfl rfl rfl (QOp_extract _ _ _ _ rfl rfl rfl) ?_
  refine AOps_q 18 _ rfl rfl rfl (QOp_extract _ _ _ _ rfl rfl rfl) ?_
  refine AOps_q 5 _ rfl rfl rfl (QOp_assign _ _ rfl rfl) ?_
  refine AOps_q 6 _ rfl rfl rfl (QOp_assign _ _ rfl rfl) ?_
  refine AOps_q 7 _ rfl rfl rfl (QOp_assign _ _ rfl rfl) ?_
  refine AOps_nil ?_
  refine ACode_seq (ACode_region ?_)
  refine AOps_q 20 _ rfl rfl rfl (QOp_move _ _ rfl rfl) ?_
  obtain ⟨r2, hr2, h⟩ := bindO h
  refine AOps_callG [] 21 _ _ _ _ _ _ _ _ _ _ rfl rfl rfl rfl rfl rfl rfl Tryd.call30 rfl (nodupB_sound _ rfl) rfl rfl rfl gok hgl (readN_ac r1.1 _ hr2) ?_
  rintro _ _ ⟨rfl, rfl⟩
  refine ⟨(fun _ h => nomatch h), (allc (trivial) (allc (trivial) (fun _ h => nomatch h))), AOps_as 21 (v' := .tup [iV r2.1, bV r2.2]) (H' := []) rfl rfl ?_⟩
  refine AOps_q 19 _ rfl rfl rfl (QOp_move _ _ rfl rfl) ?_
  refine AOps_q 22 _ rfl rfl rfl (QOp_extract _ _ _ _ rfl rfl rfl) ?_
  refine AOps_q 23 _ rfl rfl rfl (QOp_extract _ _ _ _ rfl rfl rfl) ?_
  refine AOps_q 8 _ rfl rfl rfl (QOp_assign _ _ rfl rfl) ?_
  refine AOps_q 9 _ rfl rfl rfl (QOp_assign _ _ rfl rfl) ?_
  refine AOps_nil ?_
  refine ACode_seq (ACode_region ?_)
  refine AOps_buildSlice 24 _ _ _ [] (intsD ([] : List Int)) _ rfl rfl rfl rfl rfl (by decide) Tryd.underlying30 Tryd.sizeOf2 (zero_of Tryd.typeInfo2 rfl) rfl rfl (intsD_one _) ?_
  refine AOps_q 10 _ rfl rfl rfl (QOp_assign _ _ rfl rfl) ?_
  refine AOps_nil ?_
  obtain ⟨s13, hss13, hks13⟩ := bindO h
  clear h
  refine ACode_seqJ (fun E' H' => Weak 59 G E' H' [(7, bV r1.2.2), (8, iV r2.1), (9, bV s13.1), (10, .vec 0 0)] [.vec 0 (intsD s13.2)]) ?_ ?_
  · have h := hss13
    clear hss13
    refine ACode_seq (ACode_region ?_)
    refine AOps_q 25 _ rfl rfl rfl (QOp_move _ _ rfl rfl) ?_
    refine AOps_q 26 _ rfl rfl rfl (QOp_len_str _ _ _ _ rfl rfl rfl rfl Tryd.underlying9 rfl) ?_
    refine AOps_q 27 _ rfl rfl rfl (QOp_move _ _ rfl rfl) ?_
    refine AOps_nil ?_
    refine ACode_block ?_
    refine ACode_loopW (fun k0 E H => ∃ (x3 : Bool) (x4 : Int) (x5 : List Int), E = [(6, .d (.s (.string r1.2.1))), (7, bV r1.2.2), (8, iV r2.1), (9, bV x3), (10, .vec 0 0), (26, iV (r1.2.1.size : Int)), (27, iV x4)] ∧ H = [.vec 0 (intsD x5)] ∧ impl_ParsePosition_l0 r1 k0 x3 x4 x5 = some s13) k _ _ (Weak_keep 0 hm [6, 7, 8, 9, 10, 26, 27] [0] _ _ rfl rfl rfl) ⟨_, _, _, rfl, rfl, h⟩ ?_
    clear h
    rintro k0 E H ⟨x3, x4, x5, rfl, rfl, h⟩
    cases k0 with
    | zero => cases (show (none : Option (Bool × List Int)) = some _ from h)
    | succ k0 =>
      rw [impl_ParsePosition_l0] at h
      refine ACode_seq (ACode_region ?_)
      refine AOps_q 28 _ rfl rfl rfl (QOp_lss _ _ _ _ _ _ _ rfl rfl rfl) ?_
      refine AOps_nil ?_
      refine ACode_seq ?_
      refine ACode_cond _ rfl (fun hb6 => ?_) (fun hb6 => ?_)
      · have h := iteT hb6 h
        refine ACode_skip ?_
        obtain ⟨s12, hss12, hks12⟩ := bindO h
        clear h
        refine ACode_seqJ (fun E' H' => Weak 59 G E' H' [(6, .d (.s (.string r1.2.1))), (7, bV r1.2.2), (8, iV r2.1), (9, bV s12), (10, .vec 0 0), (26, iV (r1.2.1.size : Int)), (27, iV x4)] [.vec 0 (intsD (x5 ++ ([w64 ((indexB (⟨#[46, 48, 49]⟩ : ByteArray) ((r1.2.1 : ByteArray).data.toList.getD x4.toNat 0)) - 1)])))]) ?_ ?_
        · have h := hss12
          clear hss12
          refine ACode_block ?_
          refine ACode_seq (ACode_region ?_)
          refine AOps_q 29 _ rfl rfl rfl (QOp_move _ _ rfl rfl) ?_
          refine AOps_q 11 _ rfl rfl rfl (QOp_assign _ _ rfl rfl) ?_
          refine AOps_nil ?_
          refine ACode_seq (ACode_region ?_)
          refine AOps_q 30 _ rfl rfl rfl (QOp_move _ _ rfl rfl) ?_
          refine AOps_q 31 _ rfl rfl rfl (QOp_move _ _ rfl rfl) ?_
          obtain ⟨hc7, h⟩ := guardO h
          refine AOps_q 32 _ rfl rfl rfl (QOp_sindex _ _ _ _ _ _ rfl Tryd.underlying9 hc7.1 hc7.2 rfl rfl) ?_
          refine AOps_call [] 33 _ _ _ _ _ _ _ _ _ _ rfl rfl rfl rfl rfl rfl rfl Tryd.call31 rfl (nodupB_sound _ rfl) rfl rfl rfl (indexB_ac (⟨#[46, 48, 49]⟩ : ByteArray) ((r1.2.1 : ByteArray).data.toList.getD x4.toNat 0)) ?_
          rintro _ _ ⟨rfl, rfl⟩
          refine ⟨(fun _ h => nomatch h), (allc (trivial) (fun _ h => nomatch h)), AOps_as 33 (v' := iV (indexB (⟨#[46, 48, 49]⟩ : ByteArray) ((r1.2.1 : ByteArray).data.toList.getD x4.toNat 0))) (H' := [.vec 0 (intsD x5)]) rfl rfl ?_⟩
          refine AOps_q 12 _ rfl rfl rfl (QOp_assign _ _ rfl rfl) ?_
          refine AOps_nil ?_
          obtain ⟨s10, hss10, hks10⟩ := letS h
          clear h
          refine ACode_seqJ (fun E' H' => Weak 59 G E' H' [(6, .d (.s (.string r1.2.1))), (7, bV r1.2.2), (8, iV r2.1), (9, bV s10), (10, .vec 0 0), (12, iV (indexB (⟨#[46, 48, 49]⟩ : ByteArray) ((r1.2.1 : ByteArray).data.toList.getD x4.toNat 0))), (26, iV (r1.2.1.size : Int)), (27, iV x4)] [.vec 0 (intsD x5)]) ?_ ?_
          · have h := hss10
            clear hss10
            refine (ACode_region ?_)
            refine AOps_q 34 _ rfl rfl rfl (QOp_move _ _ rfl rfl) ?_
            refine AOps_q 35 _ rfl rfl rfl (QOp_move _ _ rfl rfl) ?_
            refine AOps_case 35 _ rfl (fun hb9 => ?_) (fun hb9 => ?_)
            · have h := iteT hb9 h
              refine AOps_q 36 _ rfl rfl rfl (QOp_move _ _ rfl rfl) ?_
              refine AOps_q 37 _ rfl rfl rfl (QOp_geq _ _ _ _ _ _ _ rfl rfl rfl) ?_
              refine AOps_q 38 _ rfl rfl rfl (QOp_pick_t _ _ _ _ rfl rfl rfl) ?_
              refine AOps_q 9 _ rfl rfl rfl (QOp_assign _ _ rfl rfl) ?_
              refine AOps_nil ?_
              cases h
              exact Weak_keep 0 hm [6, 7, 8, 9, 10, 12, 26, 27] [0] _ _ rfl rfl rfl
            · have h := iteF hb9 h
              refine AOps_skip 36 rfl rfl rfl ?_
              refine AOps_skip 37 rfl rfl rfl ?_
              refine AOps_q 38 _ rfl rfl rfl (QOp_pick_f _ _ _ _ rfl rfl rfl) ?_
              refine AOps_q 9 _ rfl rfl rfl (QOp_assign _ _ rfl rfl) ?_
              refine AOps_nil ?_
              cases h
              exact Weak_keep 0 hm [6, 7, 8, 9, 10, 12, 26, 27] [0] _ _ rfl rfl rfl
          intro E' H' hw
          refine ACode_weak hw ?_
          have h := hks10
          refine (ACode_region ?_)
          refine AOps_q 39 _ rfl rfl rfl (QOp_move _ _ rfl rfl) ?_
          refine AOps_q 40 _ rfl rfl rfl (QOp_move _ _ rfl rfl) ?_
          refine AOps_q 41 _ rfl rfl rfl (QOp_sub _ _ _ _ _ _ _ rfl rfl rfl) ?_
          refine AOps_buildSlice 42 _ _ _ [_] (intsD ([w64 ((indexB (⟨#[46, 48, 49]⟩ : ByteArray) ((r1.2.1 : ByteArray).data.toList.getD x4.toNat 0)) - 1)])) _ rfl rfl rfl rfl rfl (by decide) Tryd.underlying30 Tryd.sizeOf2 (zero_of Tryd.typeInfo2 rfl) rfl rfl (intsD_one _) ?_
          obtain ⟨hc11, h⟩ := guardO h
          refine AOps_append 43 _ _ _ _ _ _ _ _ _ _ _ _ rfl rfl rfl rfl rfl rfl rfl Tryd.underlying30 Tryd.type2 rfl rfl rfl (by decide) rfl rfl rfl rfl (intsD_one _) (by rw [intsD_length, intsD_length]; exact hc11) ?_
          rw [intsD_app]
          refine AOps_q 10 _ rfl rfl rfl (QOp_assign _ _ rfl rfl) ?_
          refine AOps_nil ?_
          cases h
          exact Weak_trans (Weak_keep 0 hm [6, 7, 8, 9, 10, 26, 27] [0] _ _ rfl rfl rfl) (Weak_reset 0 hm hz [6, 7, 8, 9, 10, 26, 27] _ _ rfl rfl)
        intro E' H' hw
        refine ACode_weak hw ?_
        have h := hks12
        refine (ACode_region ?_)
        refine AOps_q 44 _ rfl rfl rfl (QOp_add _ _ _ _ _ _ _ rfl rfl rfl) ?_
        refine AOps_q 27 _ rfl rfl rfl (QOp_move _ _ rfl rfl) ?_
        refine AOps_nil ?_
        exact ⟨k0, _, _, Nat.lt_succ_self _, Weak_keep 0 hm [6, 7, 8, 9, 10, 26, 27] [0] _ _ rfl rfl rfl, _, _, _, rfl, rfl, h⟩
      · have h := iteF hb6 h
        refine ACode_exit ?_
        cases h
        exact Weak_keep 0 hm [7, 8, 9, 10] [0] _ _ rfl rfl rfl
  intro E' H' hw
  refine ACode_weak hw ?_
  have h := hks13
  obtain ⟨os19, hss19, hks19⟩ := bindO h
  clear h
  refine ACode_seqJ (fun E' H' => ∃ s19 : Unit, os19 = .inl s19 ∧ Weak 59 G E' H' [(8, iV r2.1), (10, .vec 0 0)] [.vec 0 (intsD s13.2)]) ?_ ?_
  · have h := hss19
    clear hss19
    obtain ⟨s17, hss17, hks17⟩ := bindO h
    clear h
    refine ACode_seqJ (fun E' H' => Weak 59 G E' H' [(8, iV r2.1), (10, .vec 0 0), (56, bV s17)] [.vec 0 (intsD s13.2)]) ?_ ?_
    · have h := hss17
      clear hss17
      refine (ACode_region ?_)
      refine AOps_q 45 _ rfl rfl rfl (QOp_move _ _ rfl rfl) ?_
      refine AOps_q 46 _ rfl rfl rfl (QOp_not _ _ _ rfl rfl) ?_
      refine AOps_q 47 _ rfl rfl rfl (QOp_move _ _ rfl rfl) ?_
      refine AOps_case 47 _ rfl (fun hb14 => ?_) (fun hb14 => ?_)
      · have h := iteT hb14 h
        refine AOps_skip 48 rfl rfl rfl ?_
        refine AOps_skip 49 rfl rfl rfl ?_
        refine AOps_q 50 _ rfl rfl rfl (QOp_pick_t _ _ _ _ rfl rfl rfl) ?_
        refine AOps_q 51 _ rfl rfl rfl (QOp_move _ _ rfl rfl) ?_
        refine AOps_skip 52 rfl rfl rfl ?_
        refine AOps_skip 53 rfl rfl rfl ?_
        refine AOps_skip 54 rfl rfl rfl ?_
        refine AOps_skip 55 rfl rfl rfl ?_
        refine AOps_q 56 _ rfl rfl rfl (QOp_pick_t _ _ _ _ rfl rfl rfl) ?_
        refine AOps_nil ?_
        cases h
        exact Weak_keep 0 hm [8, 10, 56] [0] _ _ rfl rfl rfl
      · have h := iteF hb14 h
        refine AOps_q 48 _ rfl rfl rfl (QOp_move _ _ rfl rfl) ?_
        refine AOps_q 49 _ rfl rfl rfl (QOp_not _ _ _ rfl rfl) ?_
        refine AOps_q 50 _ rfl rfl rfl (QOp_pick_f _ _ _ _ rfl rfl rfl) ?_
        refine AOps_q 51 _ rfl rfl rfl (QOp_move _ _ rfl rfl) ?_
        refine AOps_case 51 _ rfl (fun hb15 => ?_) (fun hb15 => ?_)
        · have h := iteT hb15 h
          refine AOps_skip 52 rfl rfl rfl ?_
          refine AOps_skip 53 rfl rfl rfl ?_
          refine AOps_skip 54 rfl rfl rfl ?_
          refine AOps_skip 55 rfl rfl rfl ?_
          refine AOps_q 56 _ rfl rfl rfl (QOp_pick_t _ _ _ _ rfl rfl rfl) ?_
          refine AOps_nil ?_
          cases h
          exact Weak_keep 0 hm [8, 10, 56] [0] _ _ rfl rfl rfl
        · have h := iteF hb15 h
          refine AOps_q 52 _ rfl rfl rfl (QOp_move _ _ rfl rfl) ?_
          refine AOps_q 53 _ rfl rfl rfl (QOp_move _ _ rfl rfl) ?_
          obtain ⟨r16, hr16, h⟩ := bindO h
          refine AOps_callL [] 54 _ _ _ _ _ _ _ _ _ _ rfl rfl rfl rfl rfl rfl rfl Tryd.call32 rfl (nodupB_sound _ rfl) rfl rfl rfl (impl_IsPosition_ac k r2.1 s13.2 _ hr16) ?_
          rintro _ _ ⟨rfl, rfl⟩
          refine ⟨(fun _ h => nomatch h), (allc (flat_s _) (fun _ h => nomatch h)), AOps_as 54 (v' := bV r16) (H' := [.vec 0 (intsD s13.2)]) rfl rfl ?_⟩
          refine AOps_q 55 _ rfl rfl rfl (QOp_not _ _ _ rfl rfl) ?_
          refine AOps_q 56 _ rfl rfl rfl (QOp_pick_f _ _ _ _ rfl rfl rfl) ?_
          refine AOps_nil ?_
          cases h
          exact Weak_keep 0 hm [8, 10, 56] [0] _ _ rfl rfl rfl
    intro E' H' hw
    refine ACode_weak hw ?_
    have h := hks17
    refine ACode_cond _ rfl (fun hb18 => ?_) (fun hb18 => ?_)
    · have h := iteT hb18 h
      refine ACode_seq (ACode_region ?_)
      refine AOps_q 2 _ rfl rfl rfl (QOp_assign _ _ rfl rfl) ?_
      refine AOps_q 3 _ rfl rfl rfl (QOp_assign _ _ rfl rfl) ?_
      refine AOps_q 4 _ rfl rfl rfl (QOp_assign _ _ rfl rfl) ?_
      refine AOps_nil ?_
      refine ACode_ret ?_
      cases h
      have h := hks19
      cases h
      exact ⟨_, _, fun r a w h => ⟨r, h⟩, _, _, [], _, (.cons (ResV_tmp _ _ rfl) (.cons (ResV_tmp _ _ rfl) (.cons (ResV_tmp _ _ rfl) .nil))), rfl, rfl, rfl, rfl, rfl⟩
    · have h := iteF hb18 h
      refine ACode_skip ?_
      cases h
      exact ⟨_, rfl, Weak_keep 0 hm [8, 10] [0] _ _ rfl rfl rfl⟩
  rintro E' H' ⟨s19, rfl, hw⟩
  refine ACode_weak hw ?_
  have h := hks19
  refine ACode_seq (ACode_region ?_)
  refine AOps_q 57 _ rfl rfl rfl (QOp_move _ _ rfl rfl) ?_
  refine AOps_q 58 _ rfl rfl rfl (QOp_move _ _ rfl rfl) ?_
  refine AOps_q 2 _ rfl rfl rfl (QOp_assign _ _ rfl rfl) ?_
  refine AOps_q 3 _ rfl rfl rfl (QOp_assign _ _ rfl rfl) ?_
  refine AOps_q 4 _ rfl rfl rfl (QOp_assign _ _ rfl rfl) ?_
  refine AOps_nil ?_
  refine ACode_ret ?_
  cases h
  exact ⟨_, _, Weak_reset 0 hm hz [2, 3, 4] _ _ rfl rfl, _, _, [0], _, (.cons (ResV_tmp _ _ rfl) (.cons (ResV_tmp _ _ rfl) (.cons (ResV_tmp _ _ rfl) .nil))), rfl, rfl, rfl, rfl, rfl⟩

-- loop.example/g01362/laws.eqInt64S
def laws_eqInt64S_l0 (p0 : List Int) (p1 : List Int) : Nat → Int → Option (Sum (Unit) (Bool))
  | 0, _ => none
  | k0 + 1, x2 => (if decide (x2 < (p0.length : Int)) then (if 0 ≤ x2 ∧ x2 < (p0.length : Int) then (if 0 ≤ x2 ∧ x2 < (p1.length : Int) then (if !decide ((p0.getD x2.toNat 0) = (p1.getD x2.toNat 0)) then some (.inr false) else laws_eqInt64S_l0 p0 p1 k0 (w64 (x2 + 1))) else none) else none) else some (.inl ()))
def laws_eqInt64S (k : Nat) (p0 : List Int) (p1 : List Int) : Option (Bool) :=
  (if !decide ((p0.length : Int) = (p1.length : Int)) then some false else (laws_eqInt64S_l0 p0 p1 k 0 : Option (Sum (Unit) (Bool))).bind fun os7 => (match os7 with | .inl s7 => some true | .inr rr => some rr))
set_option maxRecDepth 100000 in
theorem laws_eqInt64S_ac (k : Nat) (p0 : List Int) (p1 : List Int) (r : Bool) (h : laws_eqInt64S k p0 p1 = some r) : AC Tryd.prog 12 [.d (.sl none (intsD p0)), .d (.sl none (intsD p1))] [] (fun res H' => res = [bV r] ∧ H' = []) := by
  refine AC_of_body true Tryd.func12 rfl Tryd.ntmps12 (rvs := [.tmp 4]) rfl rfl (fun G hG => ?_)
  have hm : G.H.length = 0 := by rw [hG]; rfl
  have hz : zeroG G.H = true := by rw [hG]; rfl
  unfold laws_eqInt64S at h
  refine ACode_seq (ACode_region ?_)
  refine AOps_q 4 _ rfl rfl rfl (QOp_assign _ _ rfl rfl) ?_
  refine AOps_nil ?_
  refine ACode_seq ?_
  refine ACode_seq (ACode_region ?_)
  refine AOps_q 6 _ rfl rfl rfl (QOp_move _ _ rfl rfl) ?_
  refine AOps_q 7 _ rfl rfl rfl (QOp_len_sl _ _ _ _ _ _ _ (intsD_length _) rfl rfl rfl rfl Tryd.underlying30 rfl) ?_
  refine AOps_q 8 _ rfl rfl rfl (QOp_move _ _ rfl rfl) ?_
  refine AOps_q 9 _ rfl rfl rfl (QOp_len_sl _ _ _ _ _ _ _ (intsD_length _) rfl rfl rfl rfl Tryd.underlying30 rfl) ?_
  refine AOps_q 10 _ rfl rfl rfl (QOp_neq _ _ _ _ _ _ _ rfl rfl rfl) ?_
  refine AOps_nil ?_
  refine ACode_cond _ rfl (fun hb1 => ?_) (fun hb1 => ?_)
  · have h := iteT hb1 h
    refine ACode_seq (ACode_region ?_)
    refine AOps_q 4 _ rfl rfl rfl (QOp_assign _ _ rfl rfl) ?_
    refine AOps_nil ?_
    refine ACode_ret ?_
    cases h
    exact ⟨_, _, fun r a w h => ⟨r, h⟩, _, _, [], _, (.cons (ResV_tmp _ _ rfl) .nil), rfl, rfl, rfl, rfl, rfl⟩
  · have h := iteF hb1 h
    refine ACode_skip ?_
    obtain ⟨os7, hss7, hks7⟩ := bindO h
    clear h
    refine ACode_seqJ (fun E' H' => ∃ s7 : Unit, os7 = .inl s7 ∧ Weak 26 G E' H' [] []) ?_ ?_
    · have h := hss7
      clear hss7
      refine ACode_seq (ACode_region ?_)
      refine AOps_q 5 _ rfl rfl rfl (QOp_assign _ _ rfl rfl) ?_
      refine AOps_nil ?_
      refine ACode_block ?_
      refine ACode_loopW (fun k0 E H => ∃ (x2 : Int), E = [(0, .d (.sl none (intsD p0))), (1, .d (.sl none (intsD p1))), (5, iV x2)] ∧ H = [] ∧ laws_eqInt64S_l0 p0 p1 k0 x2 = some os7) k _ _ (Weak_keep 0 hm [0, 1, 5] [] _ _ rfl rfl rfl) ⟨_, rfl, rfl, h⟩ ?_
      clear h
      rintro k0 E H ⟨x2, rfl, rfl, h⟩
      cases k0 with
      | zero => cases (show (none : Option (Sum (Unit) (Bool))) = some _ from h)
      | succ k0 =>
        rw [laws_eqInt64S_l0] at h
        refine ACode_seq ?_
        refine ACode_seq (ACode_region ?_)
        refine AOps_q 11 _ rfl rfl rfl (QOp_move _ _ rfl rfl) ?_
        refine AOps_q 12 _ rfl rfl rfl (QOp_move _ _ rfl rfl) ?_
        refine AOps_q 13 _ rfl rfl rfl (QOp_len_sl _ _ _ _ _ _ _ (intsD_length _) rfl rfl rfl rfl Tryd.underlying30 rfl) ?_
        refine AOps_q 14 _ rfl rfl rfl (QOp_lss _ _ _ _ _ _ _ rfl rfl rfl) ?_
        refine AOps_nil ?_
        refine ACode_cond _ rfl (fun hb3 => ?_) (fun hb3 => ?_)
        · have h := iteT hb3 h
          refine ACode_skip ?_
          refine ACode_seq ?_
          refine ACode_block ?_
          refine ACode_seq (ACode_quiet mixed (by kernel_rfl) ?_)
          refine AQ_q 17 _ rfl rfl rfl (QOp_move _ _ rfl rfl) ?_
          refine AQ_q 18 _ rfl rfl rfl (QOp_move _ _ rfl rfl) ?_
          obtain ⟨hc4, h⟩ := guardO h
          refine AQ_q 19 _ rfl rfl rfl (QOp_indexAddr_sl _ _ _ _ _ _ _ _ rfl Tryd.underlying30 Tryd.sizeOf2 hc4.1 (by rw [intsD_length]; exact hc4.2) rfl rfl) ?_
          refine AQ_q 20 _ rfl rfl rfl (QOp_load_pv _ _ _ _ _ rfl Tryd.isAgg2 rfl (intsD_get _ _ 0 (by omega))) ?_
          refine AQ_q 21 _ rfl rfl rfl (QOp_move _ _ rfl rfl) ?_
          refine AQ_q 22 _ rfl rfl rfl (QOp_move _ _ rfl rfl) ?_
          obtain ⟨hc5, h⟩ := guardO h
          refine AQ_q 23 _ rfl rfl rfl (QOp_indexAddr_sl _ _ _ _ _ _ _ _ rfl Tryd.underlying30 Tryd.sizeOf2 hc5.1 (by rw [intsD_length]; exact hc5.2) rfl rfl) ?_
          refine AQ_q 24 _ rfl rfl rfl (QOp_load_pv _ _ _ _ _ rfl Tryd.isAgg2 rfl (intsD_get _ _ 0 (by omega))) ?_
          refine AQ_q 25 _ rfl rfl rfl (QOp_neq _ _ _ _ _ _ _ rfl rfl rfl) ?_
          refine AQ_nil ?_
          refine ACode_cond _ rfl (fun hb6 => ?_) (fun hb6 => ?_)
          · have h := iteT hb6 h
            refine ACode_seq (ACode_region ?_)
            refine AOps_q 4 _ rfl rfl rfl (QOp_assign _ _ rfl rfl) ?_
            refine AOps_nil ?_
            refine ACode_ret ?_
            cases h
            have h := hks7
            cases h
            exact ⟨_, _, fun r a w h => ⟨r, h⟩, _, _, [], _, (.cons (ResV_tmp _ _ rfl) .nil), rfl, rfl, rfl, rfl, rfl⟩
          · have h := iteF hb6 h
            refine ACode_skip ?_
            refine (ACode_region ?_)
            refine AOps_q 15 _ rfl rfl rfl (QOp_move _ _ rfl rfl) ?_
            refine AOps_q 16 _ rfl rfl rfl (QOp_add _ _ _ _ _ _ _ rfl rfl rfl) ?_
            refine AOps_q 5 _ rfl rfl rfl (QOp_assign _ _ rfl rfl) ?_
            refine AOps_nil ?_
            exact ⟨k0, _, _, Nat.lt_succ_self _, Weak_keep 0 hm [0, 1, 5] [] _ _ rfl rfl rfl, _, rfl, rfl, h⟩
        · have h := iteF hb3 h
          refine ACode_exit ?_
          cases h
          exact ⟨_, rfl, Weak_keep 0 hm [] [] _ _ rfl rfl rfl⟩
    rintro E' H' ⟨s7, rfl, hw⟩
    refine ACode_weak hw ?_
    have h := hks7
    refine ACode_seq (ACode_region ?_)
    refine AOps_q 4 _ rfl rfl rfl (QOp_assign _ _ rfl rfl) ?_
    refine AOps_nil ?_
    refine ACode_ret ?_
    cases h
    exact ⟨_, _, fun r a w h => ⟨r, h⟩, _, _, [], _, (.cons (ResV_tmp _ _ rfl) .nil), rfl, rfl, rfl, rfl, rfl⟩

-- loop.example/g01362/laws.markInt64S
def laws_markInt64S_d0_l0 (p0 : List Int) : Nat → Int → Int → Option (Int)
  | 0, _, _ => none
  | k0 + 1, x1, x2 => (if decide (x2 < (p0.length : Int)) then (if 0 ≤ x2 ∧ x2 < (p0.length : Int) then none else none) else some x1)
def laws_markInt64S_d0 (k : Nat) (p0 : List Int) (p1 : Int) : Option (Int) :=
  (laws_markInt64S_d0_l0 p0 k p1 0 : Option (Int)).bind fun s5 => some s5
set_option maxRecDepth 100000 in
theorem laws_markInt64S_d0_ac (k : Nat) (p0 : List Int) (p1 : Int) (r : Int) (h : laws_markInt64S_d0 k p0 p1 = some r) : AC Tryd.prog 15 [.d (.sl none (intsD p0)), iV p1] [] (fun res H' => res = [iV r] ∧ H' = []) := by
  refine AC_of_body true Tryd.func15 rfl Tryd.ntmps15 (rvs := [.tmp 4]) rfl rfl (fun G hG => ?_)
  have hm : G.H.length = 0 := by rw [hG]; rfl
  have hz : zeroG G.H = true := by rw [hG]; rfl
  unfold laws_markInt64S_d0 at h
  refine ACode_seq (ACode_region ?_)
  refine AOps_q 4 _ rfl rfl rfl (QOp_assign _ _ rfl rfl) ?_
  refine AOps_nil ?_
  obtain ⟨s5, hss5, hks5⟩ := bindO h
  clear h
  refine ACode_seqJ (fun E' H' => Weak 19 G E' H' [(1, iV s5)] []) ?_ ?_
  · have h := hss5
    clear hss5
    refine ACode_seq (ACode_region ?_)
    refine AOps_q 5 _ rfl rfl rfl (QOp_assign _ _ rfl rfl) ?_
    refine AOps_nil ?_
    refine ACode_block ?_
    refine ACode_loopW (fun k0 E H => ∃ (x1 : Int) (x2 : Int), E = [(0, .d (.sl none (intsD p0))), (1, iV x1), (5, iV x2)] ∧ H = [] ∧ laws_markInt64S_d0_l0 p0 k0 x1 x2 = some s5) k _ _ (Weak_keep 0 hm [0, 1, 5] [] _ _ rfl rfl rfl) ⟨_, _, rfl, rfl, h⟩ ?_
    clear h
    rintro k0 E H ⟨x1, x2, rfl, rfl, h⟩
    cases k0 with
    | zero => cases (show (none : Option (Int)) = some _ from h)
    | succ k0 =>
      rw [laws_markInt64S_d0_l0] at h
      refine ACode_seq ?_
      refine ACode_seq (ACode_region ?_)
      refine AOps_q 6 _ rfl rfl rfl (QOp_move _ _ rfl rfl) ?_
      refine AOps_q 7 _ rfl rfl rfl (QOp_move _ _ rfl rfl) ?_
      refine AOps_q 8 _ rfl rfl rfl (QOp_len_sl _ _ _ _ _ _ _ (intsD_length _) rfl rfl rfl rfl Tryd.underlying30 rfl) ?_
      refine AOps_q 9 _ rfl rfl rfl (QOp_lss _ _ _ _ _ _ _ rfl rfl rfl) ?_
      refine AOps_nil ?_
      refine ACode_cond _ rfl (fun hb3 => ?_) (fun hb3 => ?_)
      · have h := iteT hb3 h
        refine ACode_skip ?_
        refine ACode_seq ?_
        refine ACode_block ?_
        refine ACode_seq (ACode_region ?_)
        refine AOps_q 12 _ rfl rfl rfl (QOp_move _ _ rfl rfl) ?_
        refine AOps_q 13 _ rfl rfl rfl (QOp_move _ _ rfl rfl) ?_
        refine AOps_q 14 _ rfl rfl rfl (QOp_move _ _ rfl rfl) ?_
        obtain ⟨hc4, h⟩ := guardO h
        refine AOps_q 15 _ rfl rfl rfl (QOp_indexAddr_sl _ _ _ _ _ _ _ _ rfl Tryd.underlying30 Tryd.sizeOf2 hc4.1 (by rw [intsD_length]; exact hc4.2) rfl rfl) ?_
        cases h
      · have h := iteF hb3 h
        refine ACode_exit ?_
        cases h
        exact Weak_keep 0 hm [1] [] _ _ rfl rfl rfl
  intro E' H' hw
  refine ACode_weak hw ?_
  have h := hks5
  refine ACode_seq (ACode_region ?_)
  refine AOps_q 18 _ rfl rfl rfl (QOp_move _ _ rfl rfl) ?_
  refine AOps_q 4 _ rfl rfl rfl (QOp_assign _ _ rfl rfl) ?_
  refine AOps_nil ?_
  refine ACode_ret ?_
  cases h
  exact ⟨_, _, fun r a w h => ⟨r, h⟩, _, _, [], _, (.cons (ResV_tmp _ _ rfl) .nil), rfl, rfl, rfl, rfl, rfl⟩

-- loop.example/g01362/laws.heldInt64S
def laws_heldInt64S_l0 (p0 : List Int) : Nat → Int → Int → Option (Sum (Int) (Int))
  | 0, _, _ => none
  | k0 + 1, x1, x2 => (if decide (x2 < (p0.length : Int)) then (if 0 ≤ x2 ∧ x2 < (p0.length : Int) then (if !decide ((p0.getD x2.toNat 0) = x1) then some (.inr (-1)) else laws_heldInt64S_l0 p0 k0 (w64 (x1 + 1)) (w64 (x2 + 1))) else none) else some (.inl x1))
def laws_heldInt64S (k : Nat) (p0 : List Int) (p1 : Int) : Option (Int) :=
  (laws_heldInt64S_l0 p0 k p1 0 : Option (Sum (Int) (Int))).bind fun os6 => (match os6 with | .inl s6 => some s6 | .inr rr => some rr)
set_option maxRecDepth 100000 in
theorem laws_heldInt64S_ac (k : Nat) (p0 : List Int) (p1 : Int) (r : Int) (h : laws_heldInt64S k p0 p1 = some r) : AC Tryd.prog 16 [.d (.sl none (intsD p0)), iV p1] [] (fun res H' => res = [iV r] ∧ H' = []) := by
  refine AC_of_body true Tryd.func16 rfl Tryd.ntmps16 (rvs := [.tmp 4]) rfl rfl (fun G hG => ?_)
  have hm : G.H.length = 0 := by rw [hG]; rfl
  have hz : zeroG G.H = true := by rw [hG]; rfl
  unfold laws_heldInt64S at h
  refine ACode_seq (ACode_region ?_)
  refine AOps_q 4 _ rfl rfl rfl (QOp_assign _ _ rfl rfl) ?_
  refine AOps_nil ?_
  obtain ⟨os6, hss6, hks6⟩ := bindO h
  clear h
  refine ACode_seqJ (fun E' H' => ∃ s6 : Int, os6 = .inl s6 ∧ Weak 21 G E' H' [(1, iV s6)] []) ?_ ?_
  · have h := hss6
    clear hss6
    refine ACode_seq (ACode_region ?_)
    refine AOps_q 5 _ rfl rfl rfl (QOp_assign _ _ rfl rfl) ?_
    refine AOps_nil ?_
    refine ACode_block ?_
    refine ACode_loopW (fun k0 E H => ∃ (x1 : Int) (x2 : Int), E = [(0, .d (.sl none (intsD p0))), (1, iV x1), (5, iV x2)] ∧ H = [] ∧ laws_heldInt64S_l0 p0 k0 x1 x2 = some os6) k _ _ (Weak_keep 0 hm [0, 1, 5] [] _ _ rfl rfl rfl) ⟨_, _, rfl, rfl, h⟩ ?_
    clear h
    rintro k0 E H ⟨x1, x2, rfl, rfl, h⟩
    cases k0 with
    | zero => cases (show (none : Option (Sum (Int) (Int))) = some _ from h)
    | succ k0 =>
      rw [laws_heldInt64S_l0] at h
      refine ACode_seq ?_
      refine ACode_seq (ACode_region ?_)
      refine AOps_q 6 _ rfl rfl rfl (QOp_move _ _ rfl rfl) ?_
      refine AOps_q 7 _ rfl rfl rfl (QOp_move _ _ rfl rfl) ?_
      refine AOps_q 8 _ rfl rfl rfl (QOp_len_sl _ _ _ _ _ _ _ (intsD_length _) rfl rfl rfl rfl Tryd.underlying30 rfl) ?_
      refine AOps_q 9 _ rfl rfl rfl (QOp_lss _ _ _ _ _ _ _ rfl rfl rfl) ?_
      refine AOps_nil ?_
      refine ACode_cond _ rfl (fun hb3 => ?_) (fun hb3 => ?_)
      · have h := iteT hb3 h
        refine ACode_skip ?_
        refine ACode_seq ?_
        refine ACode_block ?_
        refine ACode_seq ?_
        refine ACode_seq (ACode_region ?_)
        refine AOps_q 12 _ rfl rfl rfl (QOp_move _ _ rfl rfl) ?_
        refine AOps_q 13 _ rfl rfl rfl (QOp_move _ _ rfl rfl) ?_
        obtain ⟨hc4, h⟩ := guardO h
        refine AOps_q 14 _ rfl rfl rfl (QOp_indexAddr_sl _ _ _ _ _ _ _ _ rfl Tryd.underlying30 Tryd.sizeOf2 hc4.1 (by rw [intsD_length]; exact hc4.2) rfl rfl) ?_
        refine AOps_q 15 _ rfl rfl rfl (QOp_load_pv _ _ _ _ _ rfl Tryd.isAgg2 rfl (intsD_get _ _ 0 (by omega))) ?_
        refine AOps_q 16 _ rfl rfl rfl (QOp_move _ _ rfl rfl) ?_
        refine AOps_q 17 _ rfl rfl rfl (QOp_neq _ _ _ _ _ _ _ rfl rfl rfl) ?_
        refine AOps_nil ?_
        refine ACode_cond _ rfl (fun hb5 => ?_) (fun hb5 => ?_)
        · have h := iteT hb5 h
          refine ACode_seq (ACode_region ?_)
          refine AOps_q 4 _ rfl rfl rfl (QOp_assign _ _ rfl rfl) ?_
          refine AOps_nil ?_
          refine ACode_ret ?_
          cases h
          have h := hks6
          cases h
          exact ⟨_, _, fun r a w h => ⟨r, h⟩, _, _, [], _, (.cons (ResV_tmp _ _ rfl) .nil), rfl, rfl, rfl, rfl, rfl⟩
        · have h := iteF hb5 h
          refine ACode_skip ?_
          refine (ACode_region ?_)
          refine AOps_q 18 _ rfl rfl rfl (QOp_move _ _ rfl rfl) ?_
          refine AOps_q 19 _ rfl rfl rfl (QOp_add _ _ _ _ _ _ _ rfl rfl rfl) ?_
          refine AOps_q 1 _ rfl rfl rfl (QOp_assign _ _ rfl rfl) ?_
          refine AOps_nil ?_
          refine (ACode_region ?_)
          refine AOps_q 10 _ rfl rfl rfl (QOp_move _ _ rfl rfl) ?_
          refine AOps_q 11 _ rfl rfl rfl (QOp_add _ _ _ _ _ _ _ rfl rfl rfl) ?_
          refine AOps_q 5 _ rfl rfl rfl (QOp_assign _ _ rfl rfl) ?_
          refine AOps_nil ?_
          exact ⟨k0, _, _, Nat.lt_succ_self _, Weak_keep 0 hm [0, 1, 5] [] _ _ rfl rfl rfl, _, _, rfl, rfl, h⟩
      · have h := iteF hb3 h
        refine ACode_exit ?_
        cases h
        exact ⟨_, rfl, Weak_keep 0 hm [1] [] _ _ rfl rfl rfl⟩
  rintro E' H' ⟨s6, rfl, hw⟩
  refine ACode_weak hw ?_
  have h := hks6
  refine ACode_seq (ACode_region ?_)
  refine AOps_q 20 _ rfl rfl rfl (QOp_move _ _ rfl rfl) ?_
  refine AOps_q 4 _ rfl rfl rfl (QOp_assign _ _ rfl rfl) ?_
  refine AOps_nil ?_
  refine ACode_ret ?_
  cases h
  exact ⟨_, _, fun r a w h => ⟨r, h⟩, _, _, [], _, (.cons (ResV_tmp _ _ rfl) .nil), rfl, rfl, rfl, rfl, rfl⟩

-- loop.example/g01362/laws.markInt64S
def laws_markInt64S_l0 : Nat → Int → Int → (List Int) → Option (Int × List Int)
  | 0, _, _, _ => none
  | k0 + 1, x1, x2, x3 => (if decide (x2 < (x3.length : Int)) then (if 0 ≤ x2 ∧ x2 < (x3.length : Int) then laws_markInt64S_l0 k0 (w64 (x1 + 1)) (w64 (x2 + 1)) (x3.set x2.toNat x1) else none) else some (x1, x3))
def laws_markInt64S (k : Nat) (p0 : List Int) (p1 : Int) : Option (Int × List Int) :=
  (laws_markInt64S_l0 k p1 0 p0 : Option (Int × List Int)).bind fun s6 => some (s6.1, s6.2)
set_option maxRecDepth 100000 in
theorem laws_markInt64S_ac (k : Nat) (p0 : List Int) (p1 : Int) (r : Int × List Int) (h : laws_markInt64S k p0 p1 = some r) : AC Tryd.prog 15 [.vec 0 0, iV p1] [.vec 0 (intsD p0)] (fun res H' => res = [iV r.1] ∧ H' = [.vec 0 (intsD r.2)]) := by
  refine AC_of_body true Tryd.func15 rfl Tryd.ntmps15 (rvs := [.tmp 4]) rfl rfl (fun G hG => ?_)
  have hm : G.H.length = 1 := by rw [hG]; rfl
  have hz : zeroG G.H = true := by rw [hG]; rfl
  unfold laws_markInt64S at h
  refine ACode_seq (ACode_region ?_)
  refine AOps_q 4 _ rfl rfl rfl (QOp_assign _ _ rfl rfl) ?_
  refine AOps_nil ?_
  obtain ⟨s6, hss6, hks6⟩ := bindO h
  clear h
  refine ACode_seqJ (fun E' H' => Weak 19 G E' H' [(1, iV s6.1)] [.vec 0 (intsD s6.2)]) ?_ ?_
  · have h := hss6
    clear hss6
    refine ACode_seq (ACode_region ?_)
    refine AOps_q 5 _ rfl rfl rfl (QOp_assign _ _ rfl rfl) ?_
    refine AOps_nil ?_
    refine ACode_block ?_
    refine ACode_loopW (fun k0 E H => ∃ (x1 : Int) (x2 : Int) (x3 : List Int), E = [(0, .vec 0 0), (1, iV x1), (5, iV x2)] ∧ H = [.vec 0 (intsD x3)] ∧ laws_markInt64S_l0 k0 x1 x2 x3 = some s6) k _ _ (Weak_keep 1 hm [0, 1, 5] [] _ _ rfl rfl rfl) ⟨_, _, _, rfl, rfl, h⟩ ?_
    clear h
    rintro k0 E H ⟨x1, x2, x3, rfl, rfl, h⟩
    cases k0 with
    | zero => cases (show (none : Option (Int × List Int)) = some _ from h)
    | succ k0 =>
      rw [laws_markInt64S_l0] at h
      refine ACode_seq ?_
      refine ACode_seq (ACode_region ?_)
      refine AOps_q 6 _ rfl rfl rfl (QOp_move _ _ rfl rfl) ?_
      refine AOps_q 7 _ rfl rfl rfl (QOp_move _ _ rfl rfl) ?_
      refine AOps_q 8 _ rfl rfl rfl (QOp_len_vec _ _ _ _ _ _ _ _ (intsD_length _) rfl rfl rfl rfl Tryd.underlying30 rfl rfl) ?_
      refine AOps_q 9 _ rfl rfl rfl (QOp_lss _ _ _ _ _ _ _ rfl rfl rfl) ?_
      refine AOps_nil ?_
      refine ACode_cond _ rfl (fun hb4 => ?_) (fun hb4 => ?_)
      · have h := iteT hb4 h
        refine ACode_skip ?_
        refine ACode_seq ?_
        refine ACode_block ?_
        refine ACode_seq (ACode_region ?_)
        refine AOps_q 12 _ rfl rfl rfl (QOp_move _ _ rfl rfl) ?_
        refine AOps_q 13 _ rfl rfl rfl (QOp_move _ _ rfl rfl) ?_
        refine AOps_q 14 _ rfl rfl rfl (QOp_move _ _ rfl rfl) ?_
        obtain ⟨hc5, h⟩ := guardO h
        refine AOps_q 15 _ rfl rfl rfl (QOp_indexAddr_vec _ _ _ _ _ _ _ _ _ rfl Tryd.underlying30 Tryd.sizeOf2 hc5.1 (by rw [intsD_length]; exact hc5.2) rfl rfl rfl) ?_
        refine AOps_store_eptr _ _ _ _ _ _ (intsD x3) _ rfl rfl rfl rfl rfl rfl rfl Tryd.sizeOf2 (by rw [intsD_length]; omega) ?_
        rw [intsD_set]
        refine AOps_nil ?_
        refine (ACode_region ?_)
        refine AOps_q 16 _ rfl rfl rfl (QOp_move _ _ rfl rfl) ?_
        refine AOps_q 17 _ rfl rfl rfl (QOp_add _ _ _ _ _ _ _ rfl rfl rfl) ?_
        refine AOps_q 1 _ rfl rfl rfl (QOp_assign _ _ rfl rfl) ?_
        refine AOps_nil ?_
        refine (ACode_region ?_)
        refine AOps_q 10 _ rfl rfl rfl (QOp_move _ _ rfl rfl) ?_
        refine AOps_q 11 _ rfl rfl rfl (QOp_add _ _ _ _ _ _ _ rfl rfl rfl) ?_
        refine AOps_q 5 _ rfl rfl rfl (QOp_assign _ _ rfl rfl) ?_
        refine AOps_nil ?_
        exact ⟨k0, _, _, Nat.lt_succ_self _, Weak_keep 1 hm [0, 1, 5] [] _ _ rfl rfl rfl, _, _, _, rfl, rfl, h⟩
      · have h := iteF hb4 h
        refine ACode_exit ?_
        cases h
        exact Weak_keep 1 hm [1] [] _ _ rfl rfl rfl
  intro E' H' hw
  refine ACode_weak hw ?_
  have h := hks6
  refine ACode_seq (ACode_region ?_)
  refine AOps_q 18 _ rfl rfl rfl (QOp_move _ _ rfl rfl) ?_
  refine AOps_q 4 _ rfl rfl rfl (QOp_assign _ _ rfl rfl) ?_
  refine AOps_nil ?_
  refine ACode_ret ?_
  cases h
  exact ⟨_, _, fun r a w h => ⟨r, h⟩, _, _, [], _, (.cons (ResV_tmp _ _ rfl) .nil), rfl, rfl, rfl, rfl, rfl⟩

-- loop.example/g01362/laws.FnExactParsePosition
def laws_FnExactParsePosition (k : Nat) (p0 : ByteArray) : Option (Bool) :=
  (if decide (1048576 < (p0.size : Int)) then some true else (spec_ParsePosition k p0).bind fun r2 => (impl_ParsePosition k p0).bind fun r3 => (match r3.2.1 with | none => (((if !decide (r3.1 = r2.1) then some true else (laws_eqInt64S k ([]) r2.2.1).bind fun r7 => (if !r7 then some true else some (!decide (r3.2.2 = r2.2.2)))) : Option (Bool)).bind fun s9 => (if s9 then some (.inr false) else some (.inl ())) : Option (Sum (Unit) (Bool))).bind fun os11 => (match os11 with | .inl s11 => (laws_markInt64S_d0 k ([]) 1).bind fun r12 => (laws_heldInt64S k ([]) 1).bind fun r13 => (if decide (r13 < 0) then some false else (if !decide (r13 = r12) then some false else (impl_ParsePosition k p0).bind fun r16 => (match r16.2.1 with | none => (((if !decide (r16.1 = r2.1) then some true else (laws_eqInt64S k ([]) r2.2.1).bind fun r20 => (if !r20 then some true else some (!decide (r16.2.2 = r2.2.2)))) : Option (Bool)).bind fun s22 => (if s22 then some (.inr false) else some (.inl ())) : Option (Sum (Unit) (Bool))).bind fun os24 => (match os24 with | .inl s24 => (laws_heldInt64S k ([]) 1).bind fun r25 => (if decide (r25 < 0) then some false else (if !decide (r25 = r12) then some false else some true)) | .inr rr => some rr) | some l17 => (((if !decide (r16.1 = r2.1) then some true else (laws_eqInt64S k l17 r2.2.1).bind fun r29 => (if !r29 then some true else some (!decide (r16.2.2 = r2.2.2)))) : Option (Bool)).bind fun s31 => (if s31 then some (.inr false) else some (.inl ())) : Option (Sum (Unit) (Bool))).bind fun os33 => (match os33 with | .inl s33 => (laws_heldInt64S k ([]) 1).bind fun r34 => (if decide (r34 < 0) then some false else (if !decide (r34 = r12) then some false else some true)) | .inr rr => some rr)))) | .inr rr => some rr) | some l4 => (((if !decide (r3.1 = r2.1) then some true else (laws_eqInt64S k l4 r2.2.1).bind fun r38 => (if !r38 then some true else some (!decide (r3.2.2 = r2.2.2)))) : Option (Bool)).bind fun s40 => (if s40 then some (.inr false) else some (.inl ())) : Option (Sum (Unit) (Bool))).bind fun os42 => (match os42 with | .inl s42 => (laws_markInt64S k l4 1).bind fun r43 => (laws_heldInt64S k r43.2 1).bind fun r44 => (if decide (r44 < 0) then some false else (if !decide (r44 = r43.1) then some false else (impl_ParsePosition k p0).bind fun r47 => (match r47.2.1 with | none => (((if !decide (r47.1 = r2.1) then some true else (laws_eqInt64S k ([]) r2.2.1).bind fun r51 => (if !r51 then some true else some (!decide (r47.2.2 = r2.2.2)))) : Option (Bool)).bind fun s53 => (if s53 then some (.inr false) else some (.inl ())) : Option (Sum (Unit) (Bool))).bind fun os55 => (match os55 with | .inl s55 => (laws_heldInt64S k r43.2 1).bind fun r56 => (if decide (r56 < 0) then some false else (if !decide (r56 = r43.1) then some false else some true)) | .inr rr => some rr) | some l48 => (((if !decide (r47.1 = r2.1) then some true else (laws_eqInt64S k l48 r2.2.1).bind fun r60 => (if !r60 then some true else some (!decide (r47.2.2 = r2.2.2)))) : Option (Bool)).bind fun s62 => (if s62 then some (.inr false) else some (.inl ())) : Option (Sum (Unit) (Bool))).bind fun os64 => (match os64 with | .inl s64 => (laws_heldInt64S k r43.2 1).bind fun r65 => (if decide (r65 < 0) then some false else (if !decide (r65 = r43.1) then some false else some true)) | .inr rr => some rr)))) | .inr rr => some rr)))
set_option maxRecDepth 100000 in
theorem laws_FnExactParsePosition_ac (k : Nat) (p0 : ByteArray) (r : Bool) (h : laws_FnExactParsePosition k p0 = some r) : ACg GK Tryd.prog 5 [.d (.s (.string p0))] [] (fun res H' => res = [bV r] ∧ H' = []) := by
  refine AC_of_bodyG gok true Tryd.func5 rfl Tryd.ntmps5 (rvs := [.tmp 2]) rfl rfl (fun G hG hgl => ?_)
  have hm : G.H.length = 0 := by rw [hG]; rfl
  have hz : zeroG G.H = true := by rw [hG]; rfl
  unfold laws_FnExactParsePosition at h
  refine ACode_seq (ACode_region ?_)
  refine AOps_q 2 _ rfl rfl rfl (QOp_assign _ _ rfl rfl) ?_
  refine AOps_nil ?_
  refine ACode_seq ?_
  refine ACode_seq (ACode_region ?_)
  refine AOps_q 14 _ rfl rfl rfl (QOp_move _ _ rfl rfl) ?_
  refine AOps_q 15 _ rfl rfl rfl (QOp_len_str _ _ _ _ rfl rfl rfl rfl Tryd.underlying9 rfl) ?_
  refine AOps_q 16 _ rfl rfl rfl (QOp_gtr _ _ _ _ _ _ _ rfl rfl rfl) ?_
  refine AOps_nil ?_
  refine ACode_cond _ rfl (fun hb1 => ?_) (fun hb1 => ?_)
  · have h := iteT hb1 h
    refine ACode_seq (ACode_region ?_)
    refine AOps_q 2 _ rfl rfl rfl (QOp_assign _ _ rfl rfl) ?_
    refine AOps_nil ?_
    refine ACode_ret ?_
    cases h
    exact ⟨_, _, fun r a w h => ⟨r, h⟩, _, _, [], _, (.cons (ResV_tmp _ _ rfl) .nil), rfl, rfl, rfl, rfl, rfl⟩
  · have h := iteF hb1 h
    refine ACode_skip ?_
    refine ACode_seq (ACode_region ?_)
    refine AOps_q 18 _ rfl rfl rfl (QOp_move _ _ rfl rfl) ?_
    obtain ⟨r2, hr2, h⟩ := bindO h
    refine AOps_call [] 19 _ _ _ _ _ _ _ _ _ _ rfl rfl rfl rfl rfl rfl rfl Tryd.call13 rfl (nodupB_sound _ rfl) rfl rfl rfl (spec_ParsePosition_ac k p0 _ hr2) ?_
    rintro _ _ ⟨rfl, rfl⟩
    refine ⟨(fun _ h => nomatch h), (allc (trivial) (allc (trivial) (allc (trivial) (fun _ h => nomatch h)))), AOps_as 19 (v' := .tup [iV r2.1, .d (.sl none (intsD r2.2.1)), iV r2.2.2]) (H' := []) rfl rfl ?_⟩
    refine AOps_q 17 _ rfl rfl rfl (QOp_move _ _ rfl rfl) ?_
    refine AOps_q 20 _ rfl rfl rfl (QOp_extract _ _ _ _ rfl rfl rfl) ?_
    refine AOps_q 21 _ rfl rfl rfl (QOp_extract _ _ _ _ rfl rfl rfl) ?_
    refine AOps_q 22 _ rfl rfl rfl (QOp_extract _ _ _ _ rfl rfl rfl) ?_
    refine AOps_q 3 _ rfl rfl rfl (QOp_assign _ _ rfl rfl) ?_
    refine AOps_q 4 _ rfl rfl rfl (QOp_assign _ _ rfl rfl) ?_
    refine AOps_q 5 _ rfl rfl rfl (QOp_assign _ _ rfl rfl) ?_
    refine AOps_nil ?_
    refine ACode_seq (ACode_region ?_)
    refine AOps_q 24 _ rfl rfl rfl (QOp_move _ _ rfl rfl) ?_
    obtain ⟨r3, hr3, h⟩ := bindO h
    refine AOps_callG [] 25 _ _ _ _ _ _ _ _ _ _ rfl rfl rfl rfl rfl rfl rfl Tryd.call14 rfl (nodupB_sound _ rfl) rfl rfl rfl gok hgl (impl_ParsePosition_ac k p0 _ hr3) ?_
    revert h
    cases hx5 : r3.2.1 with
    | none =>
      intro h
      rintro _ _ ⟨rfl, rfl⟩
      refine ⟨(fun _ h => nomatch h), (allc (trivial) (allc (trivial) (allc (trivial) (fun _ h => nomatch h)))), AOps_as 25 (v' := .tup [iV r3.1, .d (.sl (some true) []), iV r3.2.2]) (H' := []) rfl rfl ?_⟩
      refine AOps_q 23 _ rfl rfl rfl (QOp_move _ _ rfl rfl) ?_
      refine AOps_q 26 _ rfl rfl rfl (QOp_extract _ _ _ _ rfl rfl rfl) ?_
      refine AOps_q 27 _ rfl rfl rfl (QOp_extract _ _ _ _ rfl rfl rfl) ?_
      refine AOps_q 28 _ rfl rfl rfl (QOp_extract _ _ _ _ rfl rfl rfl) ?_
      refine AOps_q 6 _ rfl rfl rfl (QOp_assign _ _ rfl rfl) ?_
      refine AOps_q 7 _ rfl rfl rfl (QOp_assign _ _ rfl rfl) ?_
      refine AOps_q 8 _ rfl rfl rfl (QOp_assign _ _ rfl rfl) ?_
      refine AOps_nil ?_
      obtain ⟨os11, hss11, hks11⟩ := bindO h
      clear h
      refine ACode_seqJ (fun E' H' => ∃ s11 : Unit, os11 = .inl s11 ∧ Weak 82 G E' H' [(0, .d (.s (.string p0))), (3, iV r2.1), (4, .d (.sl none (intsD r2.2.1))), (5, iV r2.2.2), (7, .d (.sl (some true) []))] []) ?_ ?_
      · have h := hss11
        clear hss11
        obtain ⟨s9, hss9, hks9⟩ := bindO h
        clear h
        refine ACode_seqJ (fun E' H' => Weak 82 G E' H' [(0, .d (.s (.string p0))), (3, iV r2.1), (4, .d (.sl none (intsD r2.2.1))), (5, iV r2.2.2), (7, .d (.sl (some true) [])), (42, bV s9)] []) ?_ ?_
        · have h := hss9
          clear hss9
          refine (ACode_region ?_)
          refine AOps_q 29 _ rfl rfl rfl (QOp_move _ _ rfl rfl) ?_
          refine AOps_q 30 _ rfl rfl rfl (QOp_move _ _ rfl rfl) ?_
          refine AOps_q 31 _ rfl rfl rfl (QOp_neq _ _ _ _ _ _ _ rfl rfl rfl) ?_
          refine AOps_q 32 _ rfl rfl rfl (QOp_move _ _ rfl rfl) ?_
          refine AOps_case 32 _ rfl (fun hb6 => ?_) (fun hb6 => ?_)
          · have h := iteT hb6 h
            refine AOps_skip 33 rfl rfl rfl ?_
            refine AOps_skip 34 rfl rfl rfl ?_
            refine AOps_skip 35 rfl rfl rfl ?_
            refine AOps_skip 36 rfl rfl rfl ?_
            refine AOps_q 37 _ rfl rfl rfl (QOp_pick_t _ _ _ _ rfl rfl rfl) ?_
            refine AOps_q 38 _ rfl rfl rfl (QOp_move _ _ rfl rfl) ?_
            refine AOps_skip 39 rfl rfl rfl ?_
            refine AOps_skip 40 rfl rfl rfl ?_
            refine AOps_skip 41 rfl rfl rfl ?_
            refine AOps_q 42 _ rfl rfl rfl (QOp_pick_t _ _ _ _ rfl rfl rfl) ?_
            refine AOps_nil ?_
            cases h
            exact Weak_keep 0 hm [0, 3, 4, 5, 7, 42] [] _ _ rfl rfl rfl
          · have h := iteF hb6 h
            refine AOps_q 33 _ rfl rfl rfl (QOp_move _ _ rfl rfl) ?_
            refine AOps_q 34 _ rfl rfl rfl (QOp_move _ _ rfl rfl) ?_
            obtain ⟨r7, hr7, h⟩ := bindO h
            refine AOps_call [] 35 _ _ _ _ _ _ _ _ _ _ rfl rfl rfl rfl rfl rfl rfl Tryd.call12 rfl (nodupB_sound _ rfl) rfl rfl rfl (laws_eqInt64S_ac k ([]) r2.2.1 _ hr7) ?_
            rintro _ _ ⟨rfl, rfl⟩
            refine ⟨(fun _ h => nomatch h), (allc (trivial) (fun _ h => nomatch h)), AOps_as 35 (v' := bV r7) (H' := []) rfl rfl ?_⟩
            refine AOps_q 36 _ rfl rfl rfl (QOp_not _ _ _ rfl rfl) ?_
            refine AOps_q 37 _ rfl rfl rfl (QOp_pick_f _ _ _ _ rfl rfl rfl) ?_
            refine AOps_q 38 _ rfl rfl rfl (QOp_move _ _ rfl rfl) ?_
            refine AOps_case 38 _ rfl (fun hb8 => ?_) (fun hb8 => ?_)
            · have h := iteT hb8 h
              refine AOps_skip 39 rfl rfl rfl ?_
              refine AOps_skip 40 rfl rfl rfl ?_
              refine AOps_skip 41 rfl rfl rfl ?_
              refine AOps_q 42 _ rfl rfl rfl (QOp_pick_t _ _ _ _ rfl rfl rfl) ?_
              refine AOps_nil ?_
              cases h
              exact Weak_keep 0 hm [0, 3, 4, 5, 7, 42] [] _ _ rfl rfl rfl
            · have h := iteF hb8 h
              refine AOps_q 39 _ rfl rfl rfl (QOp_move _ _ rfl rfl) ?_
              refine AOps_q 40 _ rfl rfl rfl (QOp_move _ _ rfl rfl) ?_
              refine AOps_q 41 _ rfl rfl rfl (QOp_neq _ _ _ _ _ _ _ rfl rfl rfl) ?_
              refine AOps_q 42 _ rfl rfl rfl (QOp_pick_f _ _ _ _ rfl rfl rfl) ?_
              refine AOps_nil ?_
              cases h
              exact Weak_keep 0 hm [0, 3, 4, 5, 7, 42] [] _ _ rfl rfl rfl
        intro E' H' hw
        refine ACode_weak hw ?_
        have h := hks9
        refine ACode_cond _ rfl (fun hb10 => ?_) (fun hb10 => ?_)
        · have h := iteT hb10 h
          refine ACode_seq (ACode_region ?_)
          refine AOps_q 2 _ rfl rfl rfl (QOp_assign _ _ rfl rfl) ?_
          refine AOps_nil ?_
          refine ACode_ret ?_
          cases h
          have h := hks11
          cases h
          exact ⟨_, _, fun r a w h => ⟨r, h⟩, _, _, [], _, (.cons (ResV_tmp _ _ rfl) .nil), rfl, rfl, rfl, rfl, rfl⟩
        · have h := iteF hb10 h
          refine ACode_skip ?_
          cases h
          exact ⟨_, rfl, Weak_keep 0 hm [0, 3, 4, 5, 7] [] _ _ rfl rfl rfl⟩
      rintro E' H' ⟨s11, rfl, hw⟩
      refine ACode_weak hw ?_
      have h := hks11
      refine ACode_seq (ACode_region ?_)
      refine AOps_q 9 _ rfl rfl rfl (QOp_assign _ _ rfl rfl) ?_
      refine AOps_nil ?_
      refine ACode_seq (ACode_region ?_)
      refine AOps_q 43 _ rfl rfl rfl (QOp_move _ _ rfl rfl) ?_
      refine AOps_q 44 _ rfl rfl rfl (QOp_move _ _ rfl rfl) ?_
      obtain ⟨r12, hr12, h⟩ := bindO h
      refine AOps_call [] 45 _ _ _ _ _ _ _ _ _ _ rfl rfl rfl rfl rfl rfl rfl Tryd.call15 rfl (nodupB_sound _ rfl) rfl rfl rfl (laws_markInt64S_d0_ac k ([]) 1 _ hr12) ?_
      rintro _ _ ⟨rfl, rfl⟩
      refine ⟨(fun _ h => nomatch h), (allc (trivial) (fun _ h => nomatch h)), AOps_as 45 (v' := iV r12) (H' := []) rfl rfl ?_⟩
      refine AOps_q 9 _ rfl rfl rfl (QOp_assign _ _ rfl rfl) ?_
      refine AOps_nil ?_
      refine ACode_seq (ACode_region ?_)
      refine AOps_q 10 _ rfl rfl rfl (QOp_assign _ _ rfl rfl) ?_
      refine AOps_nil ?_
      refine ACode_seq (ACode_region ?_)
      refine AOps_q 46 _ rfl rfl rfl (QOp_move _ _ rfl rfl) ?_
      refine AOps_q 47 _ rfl rfl rfl (QOp_move _ _ rfl rfl) ?_
      obtain ⟨r13, hr13, h⟩ := bindO h
      refine AOps_call [] 48 _ _ _ _ _ _ _ _ _ _ rfl rfl rfl rfl rfl rfl rfl Tryd.call16 rfl (nodupB_sound _ rfl) rfl rfl rfl (laws_heldInt64S_ac k ([]) 1 _ hr13) ?_
      rintro _ _ ⟨rfl, rfl⟩
      refine ⟨(fun _ h => nomatch h), (allc (trivial) (fun _ h => nomatch h)), AOps_as 48 (v' := iV r13) (H' := []) rfl rfl ?_⟩
      refine AOps_q 10 _ rfl rfl rfl (QOp_assign _ _ rfl rfl) ?_
      refine AOps_nil ?_
      refine ACode_seq ?_
      refine ACode_seq (ACode_region ?_)
      refine AOps_q 49 _ rfl rfl rfl (QOp_move _ _ rfl rfl) ?_
      refine AOps_q 50 _ rfl rfl rfl (QOp_lss _ _ _ _ _ _ _ rfl rfl rfl) ?_
      refine AOps_nil ?_
      refine ACode_cond _ rfl (fun hb14 => ?_) (fun hb14 => ?_)
      · have h := iteT hb14 h
        refine ACode_seq (ACode_region ?_)
        refine AOps_q 2 _ rfl rfl rfl (QOp_assign _ _ rfl rfl) ?_
        refine AOps_nil ?_
        refine ACode_ret ?_
        cases h
        exact ⟨_, _, fun r a w h => ⟨r, h⟩, _, _, [], _, (.cons (ResV_tmp _ _ rfl) .nil), rfl, rfl, rfl, rfl, rfl⟩
      · have h := iteF hb14 h
        refine ACode_skip ?_
        refine ACode_seq ?_
        refine ACode_seq (ACode_region ?_)
        refine AOps_q 51 _ rfl rfl rfl (QOp_move _ _ rfl rfl) ?_
        refine AOps_q 52 _ rfl rfl rfl (QOp_move _ _ rfl rfl) ?_
        refine AOps_q 53 _ rfl rfl rfl (QOp_neq _ _ _ _ _ _ _ rfl rfl rfl) ?_
        refine AOps_nil ?_
        refine ACode_cond _ rfl (fun hb15 => ?_) (fun hb15 => ?_)
        · have h := iteT hb15 h
          refine ACode_seq (ACode_region ?_)
          refine AOps_q 2 _ rfl rfl rfl (QOp_assign _ _ rfl rfl) ?_
          refine AOps_nil ?_
          refine ACode_ret ?_
          cases h
          exact ⟨_, _, fun r a w h => ⟨r, h⟩, _, _, [], _, (.cons (ResV_tmp _ _ rfl) .nil), rfl, rfl, rfl, rfl, rfl⟩
        · have h := iteF hb15 h
          refine ACode_skip ?_
          refine ACode_seq (ACode_region ?_)
          refine AOps_q 55 _ rfl rfl rfl (QOp_move _ _ rfl rfl) ?_
          obtain ⟨r16, hr16, h⟩ := bindO h
          refine AOps_callG [] 56 _ _ _ _ _ _ _ _ _ _ rfl rfl rfl rfl rfl rfl rfl Tryd.call14 rfl (nodupB_sound _ rfl) rfl rfl rfl gok hgl (impl_ParsePosition_ac k p0 _ hr16) ?_
          revert h
          cases hx18 : r16.2.1 with
          | none =>
            intro h
            rintro _ _ ⟨rfl, rfl⟩
            refine ⟨(fun _ h => nomatch h), (allc (trivial) (allc (trivial) (allc (trivial) (fun _ h => nomatch h)))), AOps_as 56 (v' := .tup [iV r16.1, .d (.sl (some true) []), iV r16.2.2]) (H' := []) rfl rfl ?_⟩
            refine AOps_q 54 _ rfl rfl rfl (QOp_move _ _ rfl rfl) ?_
            refine AOps_q 57 _ rfl rfl rfl (QOp_extract _ _ _ _ rfl rfl rfl) ?_
            refine AOps_q 58 _ rfl rfl rfl (QOp_extract _ _ _ _ rfl rfl rfl) ?_
            refine AOps_q 59 _ rfl rfl rfl (QOp_extract _ _ _ _ rfl rfl rfl) ?_
            refine AOps_q 11 _ rfl rfl rfl (QOp_assign _ _ rfl rfl) ?_
            refine AOps_q 12 _ rfl rfl rfl (QOp_assign _ _ rfl rfl) ?_
            refine AOps_q 13 _ rfl rfl rfl (QOp_assign _ _ rfl rfl) ?_
            refine AOps_nil ?_
            obtain ⟨os24, hss24, hks24⟩ := bindO h
            clear h
            refine ACode_seqJ (fun E' H' => ∃ s24 : Unit, os24 = .inl s24 ∧ Weak 82 G E' H' [(7, .d (.sl (some true) [])), (9, iV r12)] []) ?_ ?_
            · have h := hss24
              clear hss24
              obtain ⟨s22, hss22, hks22⟩ := bindO h
              clear h
              refine ACode_seqJ (fun E' H' => Weak 82 G E' H' [(7, .d (.sl (some true) [])), (9, iV r12), (73, bV s22)] []) ?_ ?_
              · have h := hss22
                clear hss22
                refine (ACode_region ?_)
                refine AOps_q 60 _ rfl rfl rfl (QOp_move _ _ rfl rfl) ?_
                refine AOps_q 61 _ rfl rfl rfl (QOp_move _ _ rfl rfl) ?_
                refine AOps_q 62 _ rfl rfl rfl (QOp_neq _ _ _ _ _ _ _ rfl rfl rfl) ?_
                refine AOps_q 63 _ rfl rfl rfl (QOp_move _ _ rfl rfl) ?_
                refine AOps_case 63 _ rfl (fun hb19 => ?_) (fun hb19 => ?_)
                · have h := iteT hb19 h
                  refine AOps_skip 64 rfl rfl rfl ?_
                  refine AOps_skip 65 rfl rfl rfl ?_
                  refine AOps_skip 66 rfl rfl rfl ?_
                  refine AOps_skip 67 rfl rfl rfl ?_
                  refine AOps_q 68 _ rfl rfl rfl (QOp_pick_t _ _ _ _ rfl rfl rfl) ?_
                  refine AOps_q 69 _ rfl rfl rfl (QOp_move _ _ rfl rfl) ?_
                  refine AOps_skip 70 rfl rfl rfl ?_
                  refine AOps_skip 71 rfl rfl rfl ?_
                  refine AOps_skip 72 rfl rfl rfl ?_
                  refine AOps_q 73 _ rfl rfl rfl (QOp_pick_t _ _ _ _ rfl rfl rfl) ?_
                  refine AOps_nil ?_
                  cases h
                  exact Weak_keep 0 hm [7, 9, 73] [] _ _ rfl rfl rfl
                · have h := iteF hb19 h
                  refine AOps_q 64 _ rfl rfl rfl (QOp_move _ _ rfl rfl) ?_
                  refine AOps_q 65 _ rfl rfl rfl (QOp_move _ _ rfl rfl) ?_
                  obtain ⟨r20, hr20, h⟩ := bindO h
                  refine AOps_call [] 66 _ _ _ _ _ _ _ _ _ _ rfl rfl rfl rfl rfl rfl rfl Tryd.call12 rfl (nodupB_sound _ rfl) rfl rfl rfl (laws_eqInt64S_ac k ([]) r2.2.1 _ hr20) ?_
                  rintro _ _ ⟨rfl, rfl⟩
                  refine ⟨(fun _ h => nomatch h), (allc (trivial) (fun _ h => nomatch h)), AOps_as 66 (v' := bV r20) (H' := []) rfl rfl ?_⟩
                  refine AOps_q 67 _ rfl rfl rfl (QOp_not _ _ _ rfl rfl) ?_
                  refine AOps_q 68 _ rfl rfl rfl (QOp_pick_f _ _ _ _ rfl rfl rfl) ?_
                  refine AOps_q 69 _ rfl rfl rfl (QOp_move _ _ rfl rfl) ?_
                  refine AOps_case 69 _ rfl (fun hb21 => ?_) (fun hb21 => ?_)
                  · have h := iteT hb21 h
                    refine AOps_skip 70 rfl rfl rfl ?_
                    refine AOps_skip 71 rfl rfl rfl ?_
                    refine AOps_skip 72 rfl rfl rfl ?_
                    refine AOps_q 73 _ rfl rfl rfl (QOp_pick_t _ _ _ _ rfl rfl rfl) ?_
                    refine AOps_nil ?_
                    cases h
                    exact Weak_keep 0 hm [7, 9, 73] [] _ _ rfl rfl rfl
                  · have h := iteF hb21 h
                    refine AOps_q 70 _ rfl rfl rfl (QOp_move _ _ rfl rfl) ?_
                    refine AOps_q 71 _ rfl rfl rfl (QOp_move _ _ rfl rfl) ?_
                    refine AOps_q 72 _ rfl rfl rfl (QOp_neq _ _ _ _ _ _ _ rfl rfl rfl) ?_
                    refine AOps_q 73 _ rfl rfl rfl (QOp_pick_f _ _ _ _ rfl rfl rfl) ?_
                    refine AOps_nil ?_
                    cases h
                    exact Weak_keep 0 hm [7, 9, 73] [] _ _ rfl rfl rfl
              intro E' H' hw
              refine ACode_weak hw ?_
              have h := hks22
              refine ACode_cond _ rfl (fun hb23 => ?_) (fun hb23 => ?_)
              · have h := iteT hb23 h
                refine ACode_seq (ACode_region ?_)
                refine AOps_q 2 _ rfl rfl rfl (QOp_assign _ _ rfl rfl) ?_
                refine AOps_nil ?_
                refine ACode_ret ?_
                cases h
                have h := hks24
                cases h
                exact ⟨_, _, fun r a w h => ⟨r, h⟩, _, _, [], _, (.cons (ResV_tmp _ _ rfl) .nil), rfl, rfl, rfl, rfl, rfl⟩
              · have h := iteF hb23 h
                refine ACode_skip ?_
                cases h
                exact ⟨_, rfl, Weak_keep 0 hm [7, 9] [] _ _ rfl rfl rfl⟩
            rintro E' H' ⟨s24, rfl, hw⟩
            refine ACode_weak hw ?_
            have h := hks24
            refine ACode_seq (ACode_region ?_)
            refine AOps_q 10 _ rfl rfl rfl (QOp_assign _ _ rfl rfl) ?_
            refine AOps_nil ?_
            refine ACode_seq (ACode_region ?_)
            refine AOps_q 74 _ rfl rfl rfl (QOp_move _ _ rfl rfl) ?_
            refine AOps_q 75 _ rfl rfl rfl (QOp_move _ _ rfl rfl) ?_
            obtain ⟨r25, hr25, h⟩ := bindO h
            refine AOps_call [] 76 _ _ _ _ _ _ _ _ _ _ rfl rfl rfl rfl rfl rfl rfl Tryd.call16 rfl (nodupB_sound _ rfl) rfl rfl rfl (laws_heldInt64S_ac k ([]) 1 _ hr25) ?_
            rintro _ _ ⟨rfl, rfl⟩
            refine ⟨(fun _ h => nomatch h), (allc (trivial) (fun _ h => nomatch h)), AOps_as 76 (v' := iV r25) (H' := []) rfl rfl ?_⟩
            refine AOps_q 10 _ rfl rfl rfl (QOp_assign _ _ rfl rfl) ?_
            refine AOps_nil ?_
            refine ACode_seq ?_
            refine ACode_seq (ACode_region ?_)
            refine AOps_q 77 _ rfl rfl rfl (QOp_move _ _ rfl rfl) ?_
            refine AOps_q 78 _ rfl rfl rfl (QOp_lss _ _ _ _ _ _ _ rfl rfl rfl) ?_
            refine AOps_nil ?_
            refine ACode_cond _ rfl (fun hb26 => ?_) (fun hb26 => ?_)
            · have h := iteT hb26 h
              refine ACode_seq (ACode_region ?_)
              refine AOps_q 2 _ rfl rfl rfl (QOp_assign _ _ rfl rfl) ?_
              refine AOps_nil ?_
              refine ACode_ret ?_
              cases h
              exact ⟨_, _, fun r a w h => ⟨r, h⟩, _, _, [], _, (.cons (ResV_tmp _ _ rfl) .nil), rfl, rfl, rfl, rfl, rfl⟩
            · have h := iteF hb26 h
              refine ACode_skip ?_
              refine ACode_seq ?_
              refine ACode_seq (ACode_region ?_)
              refine AOps_q 79 _ rfl rfl rfl (QOp_move _ _ rfl rfl) ?_
              refine AOps_q 80 _ rfl rfl rfl (QOp_move _ _ rfl rfl) ?_
              refine AOps_q 81 _ rfl rfl rfl (QOp_neq _ _ _ _ _ _ _ rfl rfl rfl) ?_
              refine AOps_nil ?_
              refine ACode_cond _ rfl (fun hb27 => ?_) (fun hb27 => ?_)
              · have h := iteT hb27 h
                refine ACode_seq (ACode_region ?_)
                refine AOps_q 2 _ rfl rfl rfl (QOp_assign _ _ rfl rfl) ?_
                refine AOps_nil ?_
                refine ACode_ret ?_
                cases h
                exact ⟨_, _, fun r a w h => ⟨r, h⟩, _, _, [], _, (.cons (ResV_tmp _ _ rfl) .nil), rfl, rfl, rfl, rfl, rfl⟩
              · have h := iteF hb27 h
                refine ACode_skip ?_
                refine ACode_seq (ACode_region ?_)
                refine AOps_q 2 _ rfl rfl rfl (QOp_assign _ _ rfl rfl) ?_
                refine AOps_nil ?_
                refine ACode_ret ?_
                cases h
                exact ⟨_, _, fun r a w h => ⟨r, h⟩, _, _, [], _, (.cons (ResV_tmp _ _ rfl) .nil), rfl, rfl, rfl, rfl, rfl⟩
          | some l17 =>
            intro h
            rintro _ _ ⟨rfl, rfl⟩
            refine ⟨(allc (fun _ _ => trivial) (fun _ h => nomatch h)), (allc (trivial) (allc (trivial) (allc (trivial) (fun _ h => nomatch h)))), AOps_as 56 (v' := .tup [iV r16.1, .vec 0 0, iV r16.2.2]) (H' := [.vec 0 (intsD l17)]) rfl rfl ?_⟩
            refine AOps_q 54 _ rfl rfl rfl (QOp_move _ _ rfl rfl) ?_
            refine AOps_q 57 _ rfl rfl rfl (QOp_extract _ _ _ _ rfl rfl rfl) ?_
            refine AOps_q 58 _ rfl rfl rfl (QOp_extract _ _ _ _ rfl rfl rfl) ?_
            refine AOps_q 59 _ rfl rfl rfl (QOp_extract _ _ _ _ rfl rfl rfl) ?_
            refine AOps_q 11 _ rfl rfl rfl (QOp_assign _ _ rfl rfl) ?_
            refine AOps_q 12 _ rfl rfl rfl (QOp_assign _ _ rfl rfl) ?_
            refine AOps_q 13 _ rfl rfl rfl (QOp_assign _ _ rfl rfl) ?_
            refine AOps_nil ?_
            obtain ⟨os33, hss33, hks33⟩ := bindO h
            clear h
            refine ACode_seqJ (fun E' H' => ∃ s33 : Unit, os33 = .inl s33 ∧ Weak 82 G E' H' [(7, .d (.sl (some true) [])), (9, iV r12)] []) ?_ ?_
            · have h := hss33
              clear hss33
              obtain ⟨s31, hss31, hks31⟩ := bindO h
              clear h
              refine ACode_seqJ (fun E' H' => Weak 82 G E' H' [(7, .d (.sl (some true) [])), (9, iV r12), (73, bV s31)] []) ?_ ?_
              · have h := hss31
                clear hss31
                refine (ACode_region ?_)
                refine AOps_q 60 _ rfl rfl rfl (QOp_move _ _ rfl rfl) ?_
                refine AOps_q 61 _ rfl rfl rfl (QOp_move _ _ rfl rfl) ?_
                refine AOps_q 62 _ rfl rfl rfl (QOp_neq _ _ _ _ _ _ _ rfl rfl rfl) ?_
                refine AOps_q 63 _ rfl rfl rfl (QOp_move _ _ rfl rfl) ?_
                refine AOps_case 63 _ rfl (fun hb28 => ?_) (fun hb28 => ?_)
                · have h := iteT hb28 h
                  refine AOps_skip 64 rfl rfl rfl ?_
                  refine AOps_skip 65 rfl rfl rfl ?_
                  refine AOps_skip 66 rfl rfl rfl ?_
                  refine AOps_skip 67 rfl rfl rfl ?_
                  refine AOps_q 68 _ rfl rfl rfl (QOp_pick_t _ _ _ _ rfl rfl rfl) ?_
                  refine AOps_q 69 _ rfl rfl rfl (QOp_move _ _ rfl rfl) ?_
                  refine AOps_skip 70 rfl rfl rfl ?_
                  refine AOps_skip 71 rfl rfl rfl ?_
                  refine AOps_skip 72 rfl rfl rfl ?_
                  refine AOps_q 73 _ rfl rfl rfl (QOp_pick_t _ _ _ _ rfl rfl rfl) ?_
                  refine AOps_nil ?_
                  cases h
                  exact Weak_keep 0 hm [7, 9, 73] [] _ _ rfl rfl rfl
                · have h := iteF hb28 h
                  refine AOps_q 64 _ rfl rfl rfl (QOp_move _ _ rfl rfl) ?_
                  refine AOps_q 65 _ rfl rfl rfl (QOp_move _ _ rfl rfl) ?_
                  obtain ⟨r29, hr29, h⟩ := bindO h
                  refine AOps_callL [] 66 _ _ _ _ _ _ _ _ _ _ rfl rfl rfl rfl rfl rfl rfl Tryd.call12 rfl (nodupB_sound _ rfl) rfl rfl rfl (laws_eqInt64S_ac k l17 r2.2.1 _ hr29) ?_
                  rintro _ _ ⟨rfl, rfl⟩
                  refine ⟨(fun _ h => nomatch h), (allc (flat_s _) (fun _ h => nomatch h)), AOps_as 66 (v' := bV r29) (H' := [.vec 0 (intsD l17)]) rfl rfl ?_⟩
                  refine AOps_q 67 _ rfl rfl rfl (QOp_not _ _ _ rfl rfl) ?_
                  refine AOps_q 68 _ rfl rfl rfl (QOp_pick_f _ _ _ _ rfl rfl rfl) ?_
                  refine AOps_q 69 _ rfl rfl rfl (QOp_move _ _ rfl rfl) ?_
                  refine AOps_case 69 _ rfl (fun hb30 => ?_) (fun hb30 => ?_)
                  · have h := iteT hb30 h
                    refine AOps_skip 70 rfl rfl rfl ?_
                    refine AOps_skip 71 rfl rfl rfl ?_
                    refine AOps_skip 72 rfl rfl rfl ?_
                    refine AOps_q 73 _ rfl rfl rfl (QOp_pick_t _ _ _ _ rfl rfl rfl) ?_
                    refine AOps_nil ?_
                    cases h
                    exact Weak_keep 0 hm [7, 9, 73] [] _ _ rfl rfl rfl
                  · have h := iteF hb30 h
                    refine AOps_q 70 _ rfl rfl rfl (QOp_move _ _ rfl rfl) ?_
                    refine AOps_q 71 _ rfl rfl rfl (QOp_move _ _ rfl rfl) ?_
                    refine AOps_q 72 _ rfl rfl rfl (QOp_neq _ _ _ _ _ _ _ rfl rfl rfl) ?_
                    refine AOps_q 73 _ rfl rfl rfl (QOp_pick_f _ _ _ _ rfl rfl rfl) ?_
                    refine AOps_nil ?_
                    cases h
                    exact Weak_keep 0 hm [7, 9, 73] [] _ _ rfl rfl rfl
              intro E' H' hw
              refine ACode_weak hw ?_
              have h := hks31
              refine ACode_cond _ rfl (fun hb32 => ?_) (fun hb32 => ?_)
              · have h := iteT hb32 h
                refine ACode_seq (ACode_region ?_)
                refine AOps_q 2 _ rfl rfl rfl (QOp_assign _ _ rfl rfl) ?_
                refine AOps_nil ?_
                refine ACode_ret ?_
                cases h
                have h := hks33
                cases h
                exact ⟨_, _, fun r a w h => ⟨r, h⟩, _, _, [], _, (.cons (ResV_tmp _ _ rfl) .nil), rfl, rfl, rfl, rfl, rfl⟩
              · have h := iteF hb32 h
                refine ACode_skip ?_
                cases h
                exact ⟨_, rfl, Weak_keep 0 hm [7, 9] [] _ _ rfl rfl rfl⟩
            rintro E' H' ⟨s33, rfl, hw⟩
            refine ACode_weak hw ?_
            have h := hks33
            refine ACode_seq (ACode_region ?_)
            refine AOps_q 10 _ rfl rfl rfl (QOp_assign _ _ rfl rfl) ?_
            refine AOps_nil ?_
            refine ACode_seq (ACode_region ?_)
            refine AOps_q 74 _ rfl rfl rfl (QOp_move _ _ rfl rfl) ?_
            refine AOps_q 75 _ rfl rfl rfl (QOp_move _ _ rfl rfl) ?_
            obtain ⟨r34, hr34, h⟩ := bindO h
            refine AOps_call [] 76 _ _ _ _ _ _ _ _ _ _ rfl rfl rfl rfl rfl rfl rfl Tryd.call16 rfl (nodupB_sound _ rfl) rfl rfl rfl (laws_heldInt64S_ac k ([]) 1 _ hr34) ?_
            rintro _ _ ⟨rfl, rfl⟩
            refine ⟨(fun _ h => nomatch h), (allc (trivial) (fun _ h => nomatch h)), AOps_as 76 (v' := iV r34) (H' := []) rfl rfl ?_⟩
            refine AOps_q 10 _ rfl rfl rfl (QOp_assign _ _ rfl rfl) ?_
            refine AOps_nil ?_
            refine ACode_seq ?_
            refine ACode_seq (ACode_region ?_)
            refine AOps_q 77 _ rfl rfl rfl (QOp_move _ _ rfl rfl) ?_
            refine AOps_q 78 _ rfl rfl rfl (QOp_lss _ _ _ _ _ _ _ rfl rfl rfl) ?_
            refine AOps_nil ?_
            refine ACode_cond _ rfl (fun hb35 => ?_) (fun hb35 => ?_)
            · have h := iteT hb35 h
              refine ACode_seq (ACode_region ?_)
              refine AOps_q 2 _ rfl rfl rfl (QOp_assign _ _ rfl rfl) ?_
              refine AOps_nil ?_
              refine ACode_ret ?_
              cases h
              exact ⟨_, _, fun r a w h => ⟨r, h⟩, _, _, [], _, (.cons (ResV_tmp _ _ rfl) .nil), rfl, rfl, rfl, rfl, rfl⟩
            · have h := iteF hb35 h
              refine ACode_skip ?_
              refine ACode_seq ?_
              refine ACode_seq (ACode_region ?_)
              refine AOps_q 79 _ rfl rfl rfl (QOp_move _ _ rfl rfl) ?_
              refine AOps_q 80 _ rfl rfl rfl (QOp_move _ _ rfl rfl) ?_
              refine AOps_q 81 _ rfl rfl rfl (QOp_neq _ _ _ _ _ _ _ rfl rfl rfl) ?_
              refine AOps_nil ?_
              refine ACode_cond _ rfl (fun hb36 => ?_) (fun hb36 => ?_)
              · have h := iteT hb36 h
                refine ACode_seq (ACode_region ?_)
                refine AOps_q 2 _ rfl rfl rfl (QOp_assign _ _ rfl rfl) ?_
                refine AOps_nil ?_
                refine ACode_ret ?_
                cases h
                exact ⟨_, _, fun r a w h => ⟨r, h⟩, _, _, [], _, (.cons (ResV_tmp _ _ rfl) .nil), rfl, rfl, rfl, rfl, rfl⟩
              · have h := iteF hb36 h
                refine ACode_skip ?_
                refine ACode_seq (ACode_region ?_)
                refine AOps_q 2 _ rfl rfl rfl (QOp_assign _ _ rfl rfl) ?_
                refine AOps_nil ?_
                refine ACode_ret ?_
                cases h
                exact ⟨_, _, fun r a w h => ⟨r, h⟩, _, _, [], _, (.cons (ResV_tmp _ _ rfl) .nil), rfl, rfl, rfl, rfl, rfl⟩
    | some l4 =>
      intro h
      rintro _ _ ⟨rfl, rfl⟩
      refine ⟨(allc (fun _ _ => trivial) (fun _ h => nomatch h)), (allc (trivial) (allc (trivial) (allc (trivial) (fun _ h => nomatch h)))), AOps_as 25 (v' := .tup [iV r3.1, .vec 0 0, iV r3.2.2]) (H' := [.vec 0 (intsD l4)]) rfl rfl ?_⟩
      refine AOps_q 23 _ rfl rfl rfl (QOp_move _ _ rfl rfl) ?_
      refine AOps_q 26 _ rfl rfl rfl (QOp_extract _ _ _ _ rfl rfl rfl) ?_
      refine AOps_q 27 _ rfl rfl rfl (QOp_extract _ _ _ _ rfl rfl rfl) ?_
      refine AOps_q 28 _ rfl rfl rfl (QOp_extract _ _ _ _ rfl rfl rfl) ?_
      refine AOps_q 6 _ rfl rfl rfl (QOp_assign _ _ rfl rfl) ?_
      refine AOps_q 7 _ rfl rfl rfl (QOp_assign _ _ rfl rfl) ?_
      refine AOps_q 8 _ rfl rfl rfl (QOp_assign _ _ rfl rfl) ?_
      refine AOps_nil ?_
      obtain ⟨os42, hss42, hks42⟩ := bindO h
      clear h
      refine ACode_seqJ (fun E' H' => ∃ s42 : Unit, os42 = .inl s42 ∧ Weak 82 G E' H' [(0, .d (.s (.string p0))), (3, iV r2.1), (4, .d (.sl none (intsD r2.2.1))), (5, iV r2.2.2), (7, .vec 0 0)] [.vec 0 (intsD l4)]) ?_ ?_
      · have h := hss42
        clear hss42
        obtain ⟨s40, hss40, hks40⟩ := bindO h
        clear h
        refine ACode_seqJ (fun E' H' => Weak 82 G E' H' [(0, .d (.s (.string p0))), (3, iV r2.1), (4, .d (.sl none (intsD r2.2.1))), (5, iV r2.2.2), (7, .vec 0 0), (42, bV s40)] [.vec 0 (intsD l4)]) ?_ ?_
        · have h := hss40
          clear hss40
          refine (ACode_region ?_)
          refine AOps_q 29 _ rfl rfl rfl (QOp_move _ _ rfl rfl) ?_
          refine AOps_q 30 _ rfl rfl rfl (QOp_move _ _ rfl rfl) ?_
          refine AOps_q 31 _ rfl rfl rfl (QOp_neq _ _ _ _ _ _ _ rfl rfl rfl) ?_
          refine AOps_q 32 _ rfl rfl rfl (QOp_move _ _ rfl rfl) ?_
          refine AOps_case 32 _ rfl (fun hb37 => ?_) (fun hb37 => ?_)
          · have h := iteT hb37 h
            refine AOps_skip 33 rfl rfl rfl ?_
            refine AOps_skip 34 rfl rfl rfl ?_
            refine AOps_skip 35 rfl rfl rfl ?_
            refine AOps_skip 36 rfl rfl rfl ?_
            refine AOps_q 37 _ rfl rfl rfl (QOp_pick_t _ _ _ _ rfl rfl rfl) ?_
            refine AOps_q 38 _ rfl rfl rfl (QOp_move _ _ rfl rfl) ?_
            refine AOps_skip 39 rfl rfl rfl ?_
            refine AOps_skip 40 rfl rfl rfl ?_
            refine AOps_skip 41 rfl rfl rfl ?_
            refine AOps_q 42 _ rfl rfl rfl (QOp_pick_t _ _ _ _ rfl rfl rfl) ?_
            refine AOps_nil ?_
            cases h
            exact Weak_keep 0 hm [0, 3, 4, 5, 7, 42] [0] _ _ rfl rfl rfl
          · have h := iteF hb37 h
            refine AOps_q 33 _ rfl rfl rfl (QOp_move _ _ rfl rfl) ?_
            refine AOps_q 34 _ rfl rfl rfl (QOp_move _ _ rfl rfl) ?_
            obtain ⟨r38, hr38, h⟩ := bindO h
            refine AOps_callL [] 35 _ _ _ _ _ _ _ _ _ _ rfl rfl rfl rfl rfl rfl rfl Tryd.call12 rfl (nodupB_sound _ rfl) rfl rfl rfl (laws_eqInt64S_ac k l4 r2.2.1 _ hr38) ?_
            rintro _ _ ⟨rfl, rfl⟩
            refine ⟨(fun _ h => nomatch h), (allc (flat_s _) (fun _ h => nomatch h)), AOps_as 35 (v' := bV r38) (H' := [.vec 0 (intsD l4)]) rfl rfl ?_⟩
            refine AOps_q 36 _ rfl rfl rfl (QOp_not _ _ _ rfl rfl) ?_
            refine AOps_q 37 _ rfl rfl rfl (QOp_pick_f _ _ _ _ rfl rfl rfl) ?_
            refine AOps_q 38 _ rfl rfl rfl (QOp_move _ _ rfl rfl) ?_
            refine AOps_case 38 _ rfl (fun hb39 => ?_) (fun hb39 => ?_)
            · have h := iteT hb39 h
              refine AOps_skip 39 rfl rfl rfl ?_
              refine AOps_skip 40 rfl rfl rfl ?_
              refine AOps_skip 41 rfl rfl rfl ?_
              refine AOps_q 42 _ rfl rfl rfl (QOp_pick_t _ _ _ _ rfl rfl rfl) ?_
              refine AOps_nil ?_
              cases h
              exact Weak_keep 0 hm [0, 3, 4, 5, 7, 42] [0] _ _ rfl rfl rfl
            · have h := iteF hb39 h
              refine AOps_q 39 _ rfl rfl rfl (QOp_move _ _ rfl rfl) ?_
              refine AOps_q 40 _ rfl rfl rfl (QOp_move _ _ rfl rfl) ?_
              refine AOps_q 41 _ rfl rfl rfl (QOp_neq _ _ _ _ _ _ _ rfl rfl rfl) ?_
              refine AOps_q 42 _ rfl rfl rfl (QOp_pick_f _ _ _ _ rfl rfl rfl) ?_
              refine AOps_nil ?_
              cases h
              exact Weak_keep 0 hm [0, 3, 4, 5, 7, 42] [0] _ _ rfl rfl rfl
        intro E' H' hw
        refine ACode_weak hw ?_
        have h := hks40
        refine ACode_cond _ rfl (fun hb41 => ?_) (fun hb41 => ?_)
        · have h := iteT hb41 h
          refine ACode_seq (ACode_region ?_)
          refine AOps_q 2 _ rfl rfl rfl (QOp_assign _ _ rfl rfl) ?_
          refine AOps_nil ?_
          refine ACode_ret ?_
          cases h
          have h := hks42
          cases h
          exact ⟨_, _, fun r a w h => ⟨r, h⟩, _, _, [], _, (.cons (ResV_tmp _ _ rfl) .nil), rfl, rfl, rfl, rfl, rfl⟩
        · have h := iteF hb41 h
          refine ACode_skip ?_
          cases h
          exact ⟨_, rfl, Weak_keep 0 hm [0, 3, 4, 5, 7] [0] _ _ rfl rfl rfl⟩
      rintro E' H' ⟨s42, rfl, hw⟩
      refine ACode_weak hw ?_
      have h := hks42
      refine ACode_seq (ACode_region ?_)
      refine AOps_q 9 _ rfl rfl rfl (QOp_assign _ _ rfl rfl) ?_
      refine AOps_nil ?_
      refine ACode_seq (ACode_region ?_)
      refine AOps_q 43 _ rfl rfl rfl (QOp_move _ _ rfl rfl) ?_
      refine AOps_q 44 _ rfl rfl rfl (QOp_move _ _ rfl rfl) ?_
      obtain ⟨r43, hr43, h⟩ := bindO h
      refine AOps_call [0] 45 _ _ _ _ _ _ _ _ _ _ rfl rfl rfl rfl rfl rfl rfl Tryd.call15 rfl (nodupB_sound _ rfl) rfl rfl rfl (laws_markInt64S_ac k l4 1 _ hr43) ?_
      rintro _ _ ⟨rfl, rfl⟩
      refine ⟨(allc (fun _ _ => trivial) (fun _ h => nomatch h)), (allc (trivial) (fun _ h => nomatch h)), AOps_as 45 (v' := iV r43.1) (H' := [.vec 0 (intsD r43.2)]) rfl rfl ?_⟩
      refine AOps_q 9 _ rfl rfl rfl (QOp_assign _ _ rfl rfl) ?_
      refine AOps_nil ?_
      refine ACode_seq (ACode_region ?_)
      refine AOps_q 10 _ rfl rfl rfl (QOp_assign _ _ rfl rfl) ?_
      refine AOps_nil ?_
      refine ACode_seq (ACode_region ?_)
      refine AOps_q 46 _ rfl rfl rfl (QOp_move _ _ rfl rfl) ?_
      refine AOps_q 47 _ rfl rfl rfl (QOp_move _ _ rfl rfl) ?_
      obtain ⟨r44, hr44, h⟩ := bindO h
      refine AOps_callL [] 48 _ _ _ _ _ _ _ _ _ _ rfl rfl rfl rfl rfl rfl rfl Tryd.call16 rfl (nodupB_sound _ rfl) rfl rfl rfl (laws_heldInt64S_ac k r43.2 1 _ hr44) ?_
      rintro _ _ ⟨rfl, rfl⟩
      refine ⟨(fun _ h => nomatch h), (allc (flat_s _) (fun _ h => nomatch h)), AOps_as 48 (v' := iV r44) (H' := [.vec 0 (intsD r43.2)]) rfl rfl ?_⟩
      refine AOps_q 10 _ rfl rfl rfl (QOp_assign _ _ rfl rfl) ?_
      refine AOps_nil ?_
      refine ACode_seq ?_
      refine ACode_seq (ACode_region ?_)
      refine AOps_q 49 _ rfl rfl rfl (QOp_move _ _ rfl rfl) ?_
      refine AOps_q 50 _ rfl rfl rfl (QOp_lss _ _ _ _ _ _ _ rfl rfl rfl) ?_
      refine AOps_nil ?_
      refine ACode_cond _ rfl (fun hb45 => ?_) (fun hb45 => ?_)
      · have h := iteT hb45 h
        refine ACode_seq (ACode_region ?_)
        refine AOps_q 2 _ rfl rfl rfl (QOp_assign _ _ rfl rfl) ?_
        refine AOps_nil ?_
        refine ACode_ret ?_
        cases h
        exact ⟨_, _, fun r a w h => ⟨r, h⟩, _, _, [], _, (.cons (ResV_tmp _ _ rfl) .nil), rfl, rfl, rfl, rfl, rfl⟩
      · have h := iteF hb45 h
        refine ACode_skip ?_
        refine ACode_seq ?_
        refine ACode_seq (ACode_region ?_)
        refine AOps_q 51 _ rfl rfl rfl (QOp_move _ _ rfl rfl) ?_
        refine AOps_q 52 _ rfl rfl rfl (QOp_move _ _ rfl rfl) ?_
        refine AOps_q 53 _ rfl rfl rfl (QOp_neq _ _ _ _ _ _ _ rfl rfl rfl) ?_
        refine AOps_nil ?_
        refine ACode_cond _ rfl (fun hb46 => ?_) (fun hb46 => ?_)
        · have h := iteT hb46 h
          refine ACode_seq (ACode_region ?_)
          refine AOps_q 2 _ rfl rfl rfl (QOp_assign _ _ rfl rfl) ?_
          refine AOps_nil ?_
          refine ACode_ret ?_
          cases h
          exact ⟨_, _, fun r a w h => ⟨r, h⟩, _, _, [], _, (.cons (ResV_tmp _ _ rfl) .nil), rfl, rfl, rfl, rfl, rfl⟩
        · have h := iteF hb46 h
          refine ACode_skip ?_
          refine ACode_seq (ACode_region ?_)
          refine AOps_q 55 _ rfl rfl rfl (QOp_move _ _ rfl rfl) ?_
          obtain ⟨r47, hr47, h⟩ := bindO h
          refine AOps_callG [] 56 _ _ _ _ _ _ _ _ _ _ rfl rfl rfl rfl rfl rfl rfl Tryd.call14 rfl (nodupB_sound _ rfl) rfl rfl rfl gok hgl (impl_ParsePosition_ac k p0 _ hr47) ?_
          revert h
          cases hx49 : r47.2.1 with
          | none =>
            intro h
            rintro _ _ ⟨rfl, rfl⟩
            refine ⟨(fun _ h => nomatch h), (allc (trivial) (allc (trivial) (allc (trivial) (fun _ h => nomatch h)))), AOps_as 56 (v' := .tup [iV r47.1, .d (.sl (some true) []), iV r47.2.2]) (H' := [.vec 0 (intsD r43.2)]) rfl rfl ?_⟩
            refine AOps_q 54 _ rfl rfl rfl (QOp_move _ _ rfl rfl) ?_
            refine AOps_q 57 _ rfl rfl rfl (QOp_extract _ _ _ _ rfl rfl rfl) ?_
            refine AOps_q 58 _ rfl rfl rfl (QOp_extract _ _ _ _ rfl rfl rfl) ?_
            refine AOps_q 59 _ rfl rfl rfl (QOp_extract _ _ _ _ rfl rfl rfl) ?_
            refine AOps_q 11 _ rfl rfl rfl (QOp_assign _ _ rfl rfl) ?_
            refine AOps_q 12 _ rfl rfl rfl (QOp_assign _ _ rfl rfl) ?_
            refine AOps_q 13 _ rfl rfl rfl (QOp_assign _ _ rfl rfl) ?_
            refine AOps_nil ?_
            obtain ⟨os55, hss55, hks55⟩ := bindO h
            clear h
            refine ACode_seqJ (fun E' H' => ∃ s55 : Unit, os55 = .inl s55 ∧ Weak 82 G E' H' [(7, .vec 0 0), (9, iV r43.1)] [.vec 0 (intsD r43.2)]) ?_ ?_
            · have h := hss55
              clear hss55
              obtain ⟨s53, hss53, hks53⟩ := bindO h
              clear h
              refine ACode_seqJ (fun E' H' => Weak 82 G E' H' [(7, .vec 0 0), (9, iV r43.1), (73, bV s53)] [.vec 0 (intsD r43.2)]) ?_ ?_
              · have h := hss53
                clear hss53
                refine (ACode_region ?_)
                refine AOps_q 60 _ rfl rfl rfl (QOp_move _ _ rfl rfl) ?_
                refine AOps_q 61 _ rfl rfl rfl (QOp_move _ _ rfl rfl) ?_
                refine AOps_q 62 _ rfl rfl rfl (QOp_neq _ _ _ _ _ _ _ rfl rfl rfl) ?_
                refine AOps_q 63 _ rfl rfl rfl (QOp_move _ _ rfl rfl) ?_
                refine AOps_case 63 _ rfl (fun hb50 => ?_) (fun hb50 => ?_)
                · have h := iteT hb50 h
                  refine AOps_skip 64 rfl rfl rfl ?_
                  refine AOps_skip 65 rfl rfl rfl ?_
                  refine AOps_skip 66 rfl rfl rfl ?_
                  refine AOps_skip 67 rfl rfl rfl ?_
                  refine AOps_q 68 _ rfl rfl rfl (QOp_pick_t _ _ _ _ rfl rfl rfl) ?_
                  refine AOps_q 69 _ rfl rfl rfl (QOp_move _ _ rfl rfl) ?_
                  refine AOps_skip 70 rfl rfl rfl ?_
                  refine AOps_skip 71 rfl rfl rfl ?_
                  refine AOps_skip 72 rfl rfl rfl ?_
                  refine AOps_q 73 _ rfl rfl rfl (QOp_pick_t _ _ _ _ rfl rfl rfl) ?_
                  refine AOps_nil ?_
                  cases h
                  exact Weak_keep 0 hm [7, 9, 73] [0] _ _ rfl rfl rfl
                · have h := iteF hb50 h
                  refine AOps_q 64 _ rfl rfl rfl (QOp_move _ _ rfl rfl) ?_
                  refine AOps_q 65 _ rfl rfl rfl (QOp_move _ _ rfl rfl) ?_
                  obtain ⟨r51, hr51, h⟩ := bindO h
                  refine AOps_call [] 66 _ _ _ _ _ _ _ _ _ _ rfl rfl rfl rfl rfl rfl rfl Tryd.call12 rfl (nodupB_sound _ rfl) rfl rfl rfl (laws_eqInt64S_ac k ([]) r2.2.1 _ hr51) ?_
                  rintro _ _ ⟨rfl, rfl⟩
                  refine ⟨(fun _ h => nomatch h), (allc (trivial) (fun _ h => nomatch h)), AOps_as 66 (v' := bV r51) (H' := [.vec 0 (intsD r43.2)]) rfl rfl ?_⟩
                  refine AOps_q 67 _ rfl rfl rfl (QOp_not _ _ _ rfl rfl) ?_
                  refine AOps_q 68 _ rfl rfl rfl (QOp_pick_f _ _ _ _ rfl rfl rfl) ?_
                  refine AOps_q 69 _ rfl rfl rfl (QOp_move _ _ rfl rfl) ?_
                  refine AOps_case 69 _ rfl (fun hb52 => ?_) (fun hb52 => ?_)
                  · have h := iteT hb52 h
                    refine AOps_skip 70 rfl rfl rfl ?_
                    refine AOps_skip 71 rfl rfl rfl ?_
                    refine AOps_skip 72 rfl rfl rfl ?_
                    refine AOps_q 73 _ rfl rfl rfl (QOp_pick_t _ _ _ _ rfl rfl rfl) ?_
                    refine AOps_nil ?_
                    cases h
                    exact Weak_keep 0 hm [7, 9, 73] [0] _ _ rfl rfl rfl
                  · have h := iteF hb52 h
                    refine AOps_q 70 _ rfl rfl rfl (QOp_move _ _ rfl rfl) ?_
                    refine AOps_q 71 _ rfl rfl rfl (QOp_move _ _ rfl rfl) ?_
                    refine AOps_q 72 _ rfl rfl rfl (QOp_neq _ _ _ _ _ _ _ rfl rfl rfl) ?_
                    refine AOps_q 73 _ rfl rfl rfl (QOp_pick_f _ _ _ _ rfl rfl rfl) ?_
                    refine AOps_nil ?_
                    cases h
                    exact Weak_keep 0 hm [7, 9, 73] [0] _ _ rfl rfl rfl
              intro E' H' hw
              refine ACode_weak hw ?_
              have h := hks53
              refine ACode_cond _ rfl (fun hb54 => ?_) (fun hb54 => ?_)
              · have h := iteT hb54 h
                refine ACode_seq (ACode_region ?_)
                refine AOps_q 2 _ rfl rfl rfl (QOp_assign _ _ rfl rfl) ?_
                refine AOps_nil ?_
                refine ACode_ret ?_
                cases h
                have h := hks55
                cases h
                exact ⟨_, _, fun r a w h => ⟨r, h⟩, _, _, [], _, (.cons (ResV_tmp _ _ rfl) .nil), rfl, rfl, rfl, rfl, rfl⟩
              · have h := iteF hb54 h
                refine ACode_skip ?_
                cases h
                exact ⟨_, rfl, Weak_keep 0 hm [7, 9] [0] _ _ rfl rfl rfl⟩
            rintro E' H' ⟨s55, rfl, hw⟩
            refine ACode_weak hw ?_
            have h := hks55
            refine ACode_seq (ACode_region ?_)
            refine AOps_q 10 _ rfl rfl rfl (QOp_assign _ _ rfl rfl) ?_
            refine AOps_nil ?_
            refine ACode_seq (ACode_region ?_)
            refine AOps_q 74 _ rfl rfl rfl (QOp_move _ _ rfl rfl) ?_
            refine AOps_q 75 _ rfl rfl rfl (QOp_move _ _ rfl rfl) ?_
            obtain ⟨r56, hr56, h⟩ := bindO h
            refine AOps_callL [] 76 _ _ _ _ _ _ _ _ _ _ rfl rfl rfl rfl rfl rfl rfl Tryd.call16 rfl (nodupB_sound _ rfl) rfl rfl rfl (laws_heldInt64S_ac k r43.2 1 _ hr56) ?_
            rintro _ _ ⟨rfl, rfl⟩
            refine ⟨(fun _ h => nomatch h), (allc (flat_s _) (fun _ h => nomatch h)), AOps_as 76 (v' := iV r56) (H' := [.vec 0 (intsD r43.2)]) rfl rfl ?_⟩
            refine AOps_q 10 _ rfl rfl rfl (QOp_assign _ _ rfl rfl) ?_
            refine AOps_nil ?_
            refine ACode_seq ?_
            refine ACode_seq (ACode_region ?_)
            refine AOps_q 77 _ rfl rfl rfl (QOp_move _ _ rfl rfl) ?_
            refine AOps_q 78 _ rfl rfl rfl (QOp_lss _ _ _ _ _ _ _ rfl rfl rfl) ?_
            refine AOps_nil ?_
            refine ACode_cond _ rfl (fun hb57 => ?_) (fun hb57 => ?_)
            · have h := iteT hb57 h
              refine ACode_seq (ACode_region ?_)
              refine AOps_q 2 _ rfl rfl rfl (QOp_assign _ _ rfl rfl) ?_
              refine AOps_nil ?_
              refine ACode_ret ?_
              cases h
              exact ⟨_, _, fun r a w h => ⟨r, h⟩, _, _, [], _, (.cons (ResV_tmp _ _ rfl) .nil), rfl, rfl, rfl, rfl, rfl⟩
            · have h := iteF hb57 h
              refine ACode_skip ?_
              refine ACode_seq ?_
              refine ACode_seq (ACode_region ?_)
              refine AOps_q 79 _ rfl rfl rfl (QOp_move _ _ rfl rfl) ?_
              refine AOps_q 80 _ rfl rfl rfl (QOp_move _ _ rfl rfl) ?_
              refine AOps_q 81 _ rfl rfl rfl (QOp_neq _ _ _ _ _ _ _ rfl rfl rfl) ?_
              refine AOps_nil ?_
              refine ACode_cond _ rfl (fun hb58 => ?_) (fun hb58 => ?_)
              · have h := iteT hb58 h
                refine ACode_seq (ACode_region ?_)
                refine AOps_q 2 _ rfl rfl rfl (QOp_assign _ _ rfl rfl) ?_
                refine AOps_nil ?_
                refine ACode_ret ?_
                cases h
                exact ⟨_, _, fun r a w h => ⟨r, h⟩, _, _, [], _, (.cons (ResV_tmp _ _ rfl) .nil), rfl, rfl, rfl, rfl, rfl⟩
              · have h := iteF hb58 h
                refine ACode_skip ?_
                refine ACode_seq (ACode_region ?_)
                refine AOps_q 2 _ rfl rfl rfl (QOp_assign _ _ rfl rfl) ?_
                refine AOps_nil ?_
                refine ACode_ret ?_
                cases h
                exact ⟨_, _, fun r a w h => ⟨r, h⟩, _, _, [], _, (.cons (ResV_tmp _ _ rfl) .nil), rfl, rfl, rfl, rfl, rfl⟩
          | some l48 =>
            intro h
            rintro _ _ ⟨rfl, rfl⟩
            refine ⟨(allc (fun _ _ => trivial) (fun _ h => nomatch h)), (allc (trivial) (allc (trivial) (allc (trivial) (fun _ h => nomatch h)))), AOps_as 56 (v' := .tup [iV r47.1, .vec 1 0, iV r47.2.2]) (H' := [.vec 0 (intsD r43.2), .vec 0 (intsD l48)]) rfl rfl ?_⟩
            refine AOps_q 54 _ rfl rfl rfl (QOp_move _ _ rfl rfl) ?_
            refine AOps_q 57 _ rfl rfl rfl (QOp_extract _ _ _ _ rfl rfl rfl) ?_
            refine AOps_q 58 _ rfl rfl rfl (QOp_extract _ _ _ _ rfl rfl rfl) ?_
            refine AOps_q 59 _ rfl rfl rfl (QOp_extract _ _ _ _ rfl rfl rfl) ?_
            refine AOps_q 11 _ rfl rfl rfl (QOp_assign _ _ rfl rfl) ?_
            refine AOps_q 12 _ rfl rfl rfl (QOp_assign _ _ rfl rfl) ?_
            refine AOps_q 13 _ rfl rfl rfl (QOp_assign _ _ rfl rfl) ?_
            refine AOps_nil ?_
            obtain ⟨os64, hss64, hks64⟩ := bindO h
            clear h
            refine ACode_seqJ (fun E' H' => ∃ s64 : Unit, os64 = .inl s64 ∧ Weak 82 G E' H' [(7, .vec 0 0), (9, iV r43.1)] [.vec 0 (intsD r43.2)]) ?_ ?_
            · have h := hss64
              clear hss64
              obtain ⟨s62, hss62, hks62⟩ := bindO h
              clear h
              refine ACode_seqJ (fun E' H' => Weak 82 G E' H' [(7, .vec 0 0), (9, iV r43.1), (73, bV s62)] [.vec 0 (intsD r43.2)]) ?_ ?_
              · have h := hss62
                clear hss62
                refine (ACode_region ?_)
                refine AOps_q 60 _ rfl rfl rfl (QOp_move _ _ rfl rfl) ?_
                refine AOps_q 61 _ rfl rfl rfl (QOp_move _ _ rfl rfl) ?_
                refine AOps_q 62 _ rfl rfl rfl (QOp_neq _ _ _ _ _ _ _ rfl rfl rfl) ?_
                refine AOps_q 63 _ rfl rfl rfl (QOp_move _ _ rfl rfl) ?_
                refine AOps_case 63 _ rfl (fun hb59 => ?_) (fun hb59 => ?_)
                · have h := iteT hb59 h
                  refine AOps_skip 64 rfl rfl rfl ?_
                  refine AOps_skip 65 rfl rfl rfl ?_
                  refine AOps_skip 66 rfl rfl rfl ?_
                  refine AOps_skip 67 rfl rfl rfl ?_
                  refine AOps_q 68 _ rfl rfl rfl (QOp_pick_t _ _ _ _ rfl rfl rfl) ?_
                  refine AOps_q 69 _ rfl rfl rfl (QOp_move _ _ rfl rfl) ?_
                  refine AOps_skip 70 rfl rfl rfl ?_
                  refine AOps_skip 71 rfl rfl rfl ?_
                  refine AOps_skip 72 rfl rfl rfl ?_
                  refine AOps_q 73 _ rfl rfl rfl (QOp_pick_t _ _ _ _ rfl rfl rfl) ?_
                  refine AOps_nil ?_
                  cases h
                  exact Weak_keep 0 hm [7, 9, 73] [0] _ _ rfl rfl rfl
                · have h := iteF hb59 h
                  refine AOps_q 64 _ rfl rfl rfl (QOp_move _ _ rfl rfl) ?_
                  refine AOps_q 65 _ rfl rfl rfl (QOp_move _ _ rfl rfl) ?_
                  obtain ⟨r60, hr60, h⟩ := bindO h
                  refine AOps_callL [] 66 _ _ _ _ _ _ _ _ _ _ rfl rfl rfl rfl rfl rfl rfl Tryd.call12 rfl (nodupB_sound _ rfl) rfl rfl rfl (laws_eqInt64S_ac k l48 r2.2.1 _ hr60) ?_
                  rintro _ _ ⟨rfl, rfl⟩
                  refine ⟨(fun _ h => nomatch h), (allc (flat_s _) (fun _ h => nomatch h)), AOps_as 66 (v' := bV r60) (H' := [.vec 0 (intsD r43.2), .vec 0 (intsD l48)]) rfl rfl ?_⟩
                  refine AOps_q 67 _ rfl rfl rfl (QOp_not _ _ _ rfl rfl) ?_
                  refine AOps_q 68 _ rfl rfl rfl (QOp_pick_f _ _ _ _ rfl rfl rfl) ?_
                  refine AOps_q 69 _ rfl rfl rfl (QOp_move _ _ rfl rfl) ?_
                  refine AOps_case 69 _ rfl (fun hb61 => ?_) (fun hb61 => ?_)
                  · have h := iteT hb61 h
                    refine AOps_skip 70 rfl rfl rfl ?_
                    refine AOps_skip 71 rfl rfl rfl ?_
                    refine AOps_skip 72 rfl rfl rfl ?_
                    refine AOps_q 73 _ rfl rfl rfl (QOp_pick_t _ _ _ _ rfl rfl rfl) ?_
                    refine AOps_nil ?_
                    cases h
                    exact Weak_keep 0 hm [7, 9, 73] [0] _ _ rfl rfl rfl
                  · have h := iteF hb61 h
                    refine AOps_q 70 _ rfl rfl rfl (QOp_move _ _ rfl rfl) ?_
                    refine AOps_q 71 _ rfl rfl rfl (QOp_move _ _ rfl rfl) ?_
                    refine AOps_q 72 _ rfl rfl rfl (QOp_neq _ _ _ _ _ _ _ rfl rfl rfl) ?_
                    refine AOps_q 73 _ rfl rfl rfl (QOp_pick_f _ _ _ _ rfl rfl rfl) ?_
                    refine AOps_nil ?_
                    cases h
                    exact Weak_keep 0 hm [7, 9, 73] [0] _ _ rfl rfl rfl
              intro E' H' hw
              refine ACode_weak hw ?_
              have h := hks62
              refine ACode_cond _ rfl (fun hb63 => ?_) (fun hb63 => ?_)
              · have h := iteT hb63 h
                refine ACode_seq (ACode_region ?_)
                refine AOps_q 2 _ rfl rfl rfl (QOp_assign _ _ rfl rfl) ?_
                refine AOps_nil ?_
                refine ACode_ret ?_
                cases h
                have h := hks64
                cases h
                exact ⟨_, _, fun r a w h => ⟨r, h⟩, _, _, [], _, (.cons (ResV_tmp _ _ rfl) .nil), rfl, rfl, rfl, rfl, rfl⟩
              · have h := iteF hb63 h
                refine ACode_skip ?_
                cases h
                exact ⟨_, rfl, Weak_keep 0 hm [7, 9] [0] _ _ rfl rfl rfl⟩
            rintro E' H' ⟨s64, rfl, hw⟩
            refine ACode_weak hw ?_
            have h := hks64
            refine ACode_seq (ACode_region ?_)
            refine AOps_q 10 _ rfl rfl rfl (QOp_assign _ _ rfl rfl) ?_
            refine AOps_nil ?_
            refine ACode_seq (ACode_region ?_)
            refine AOps_q 74 _ rfl rfl rfl (QOp_move _ _ rfl rfl) ?_
            refine AOps_q 75 _ rfl rfl rfl (QOp_move _ _ rfl rfl) ?_
            obtain ⟨r65, hr65, h⟩ := bindO h
            refine AOps_callL [] 76 _ _ _ _ _ _ _ _ _ _ rfl rfl rfl rfl rfl rfl rfl Tryd.call16 rfl (nodupB_sound _ rfl) rfl rfl rfl (laws_heldInt64S_ac k r43.2 1 _ hr65) ?_
            rintro _ _ ⟨rfl, rfl⟩
            refine ⟨(fun _ h => nomatch h), (allc (flat_s _) (fun _ h => nomatch h)), AOps_as 76 (v' := iV r65) (H' := [.vec 0 (intsD r43.2)]) rfl rfl ?_⟩
            refine AOps_q 10 _ rfl rfl rfl (QOp_assign _ _ rfl rfl) ?_
            refine AOps_nil ?_
            refine ACode_seq ?_
            refine ACode_seq (ACode_region ?_)
            refine AOps_q 77 _ rfl rfl rfl (QOp_move _ _ rfl rfl) ?_
            refine AOps_q 78 _ rfl rfl rfl (QOp_lss _ _ _ _ _ _ _ rfl rfl rfl) ?_
            refine AOps_nil ?_
            refine ACode_cond _ rfl (fun hb66 => ?_) (fun hb66 => ?_)
            · have h := iteT hb66 h
              refine ACode_seq (ACode_region ?_)
              refine AOps_q 2 _ rfl rfl rfl (QOp_assign _ _ rfl rfl) ?_
              refine AOps_nil ?_
              refine ACode_ret ?_
              cases h
              exact ⟨_, _, fun r a w h => ⟨r, h⟩, _, _, [], _, (.cons (ResV_tmp _ _ rfl) .nil), rfl, rfl, rfl, rfl, rfl⟩
            · have h := iteF hb66 h
              refine ACode_skip ?_
              refine ACode_seq ?_
              refine ACode_seq (ACode_region ?_)
              refine AOps_q 79 _ rfl rfl rfl (QOp_move _ _ rfl rfl) ?_
              refine AOps_q 80 _ rfl rfl rfl (QOp_move _ _ rfl rfl) ?_
              refine AOps_q 81 _ rfl rfl rfl (QOp_neq _ _ _ _ _ _ _ rfl rfl rfl) ?_
              refine AOps_nil ?_
              refine ACode_cond _ rfl (fun hb67 => ?_) (fun hb67 => ?_)
              · have h := iteT hb67 h
                refine ACode_seq (ACode_region ?_)
                refine AOps_q 2 _ rfl rfl rfl (QOp_assign _ _ rfl rfl) ?_
                refine AOps_nil ?_
                refine ACode_ret ?_
                cases h
                exact ⟨_, _, fun r a w h => ⟨r, h⟩, _, _, [], _, (.cons (ResV_tmp _ _ rfl) .nil), rfl, rfl, rfl, rfl, rfl⟩
              · have h := iteF hb67 h
                refine ACode_skip ?_
                refine ACode_seq (ACode_region ?_)
                refine AOps_q 2 _ rfl rfl rfl (QOp_assign _ _ rfl rfl) ?_
                refine AOps_nil ?_
                refine ACode_ret ?_
                cases h
                exact ⟨_, _, fun r a w h => ⟨r, h⟩, _, _, [], _, (.cons (ResV_tmp _ _ rfl) .nil), rfl, rfl, rfl, rfl, rfl⟩

end Go.Proofs.YtmmiokljmfkoiaaDoor
