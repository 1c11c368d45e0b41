/- Plain functions of the program and that the program computes them: printed by the own tool gen.py. No conditions. -/
import Derived.Test.YtghhnpdhehjlaaaGen37b
set_option linter.unusedVariables false
set_option linter.unusedSimpArgs false
namespace Go.Proofs.Ytghhnpdhehjlaaa
open Go Go.RowKit Ab

-- loop.example/g01362/spec.l04Lengths
def spec_l04Lengths_l3 (p0 : Col) (r1 : List Int) (x12 : Int) (x18 : Int) (s32 : List Bool) : Nat → Int → (List Int) → Option (List Bool × List Int)
 | 0, _, _ => none
 | k3 + 1, x33, x34 => (if decide (x33 < p0.p) then (((if 0 ≤ x18 ∧ x18 < (r1.length : Int) then (if 0 ≤ IntKind.u64.wrap x33 then (if decide (bAnd .i64 (bShr .i64 (r1.getD x18.toNat 0) (IntKind.u64.wrap x33)) 1 = 1) then (if 0 ≤ IntKind.u64.wrap x33 then some (decide (bAnd .i64 (bShr .i64 x12 (IntKind.u64.wrap x33)) 1 = 0)) else none) else some false) else none) else none) : Option (Bool)).bind fun s40 => (if s40 then (if 0 ≤ IntKind.u64.wrap x33 then (if 0 ≤ bOr .i64 x12 (bShl .i64 1 (IntKind.u64.wrap x33)) ∧ bOr .i64 x12 (bShl .i64 1 (IntKind.u64.wrap x33)) < (x34.length : Int) then (if 0 ≤ IntKind.u64.wrap x33 then (if 0 ≤ bOr .i64 x12 (bShl .i64 1 (IntKind.u64.wrap x33)) ∧ bOr .i64 x12 (bShl .i64 1 (IntKind.u64.wrap x33)) < (x34.length : Int) then some (x34.set (bOr .i64 x12 (bShl .i64 1 (IntKind.u64.wrap x33))).toNat (bOr .i64 (x34.getD (bOr .i64 x12 (bShl .i64 1 (IntKind.u64.wrap x33))).toNat 0) (bShl .i64 1 (IntKind.u64.wrap x33)))) else none) else none) else none) else none) else some x34) : Option (List Int)).bind fun s46 => spec_l04Lengths_l3 p0 r1 x12 x18 s32 k3 (w64 (x33 + 1)) s46 else some (s32, x34))
def spec_l04Lengths_l2 (k : Nat) (p0 : Col) (r1 : List Int) (x3 : Int) (x12 : Int) : Nat → Int → (List Bool) → (List Int) → Option (List Bool × List Int)
 | 0, _, _, _ => none
 | k2 + 1, x18, x19, x20 => (if decide (x18 < p0.p) then ((if 0 ≤ x12 ∧ x12 < (x20.length : Int) then (if 0 ≤ IntKind.u64.wrap x18 then (if decide (bAnd .i64 (bShr .i64 (x20.getD x12.toNat 0) (IntKind.u64.wrap x18)) 1 = 0) then some (x19, x20) else ((spec_l01Ones k x12).bind fun r25 => ((if decide (2 < r25) then (if 0 ≤ x18 ∧ x18 < (r1.length : Int) then (if 0 ≤ IntKind.u64.wrap x3 then some (decide (bAnd .i64 (bShr .i64 (r1.getD x18.toNat 0) (IntKind.u64.wrap x3)) 1 = 1)) else none) else none) else some false) : Option (Bool)).bind fun s29 => (if s29 then (if 0 ≤ r25 ∧ r25 < (x19.length : Int) then some (x19.set r25.toNat true) else none) else some x19) : Option (List Bool)).bind fun s32 => spec_l04Lengths_l3 p0 r1 x12 x18 s32 k (w64 (x3 + 1)) x20) else none) else none) : Option (List Bool × List Int)).bind fun s47 => spec_l04Lengths_l2 k p0 r1 x3 x12 k2 (w64 (x18 + 1)) s47.1 s47.2 else some (x19, x20))
def spec_l04Lengths_l1 (k : Nat) (p0 : Col) (r1 : List Int) (x3 : Int) : Nat → Int → (List Bool) → (List Int) → Option (List Bool)
 | 0, _, _, _ => none
 | k1 + 1, x12, x13, x14 => (if decide (x12 < (x14.length : Int)) then ((if 0 ≤ x12 ∧ x12 < (x14.length : Int) then (if decide ((x14.getD x12.toNat 0) = 0) then some (x13, x14) else spec_l04Lengths_l2 k p0 r1 x3 x12 k x3 x13 x14) else none) : Option (List Bool × List Int)).bind fun s48 => spec_l04Lengths_l1 k p0 r1 x3 k1 (w64 (x12 + 1)) s48.1 s48.2 else some x13)
def spec_l04Lengths_l0 (k : Nat) (p0 : Col) (r1 : List Int) : Nat → Int → (List Bool) → Option (List Bool)
 | 0, _, _ => none
 | k0 + 1, x3, x4 => (if decide (x3 < p0.p) then ((if 0 ≤ IntKind.u64.wrap p0.p then (if 0 ≤ bShl .i64 1 (IntKind.u64.wrap p0.p) ∧ bShl .i64 1 (IntKind.u64.wrap p0.p) ≤ bShl .i64 1 (IntKind.u64.wrap p0.p) ∧ bShl .i64 1 (IntKind.u64.wrap p0.p) ≤ 1099511627776 then (if 0 ≤ IntKind.u64.wrap x3 then (if 0 ≤ IntKind.u64.wrap x3 then (if 0 ≤ bShl .i64 1 (IntKind.u64.wrap x3) ∧ bShl .i64 1 (IntKind.u64.wrap x3) < ((List.replicate (bShl .i64 1 (IntKind.u64.wrap p0.p)).toNat (0 : Int)).length : Int) then (if 0 ≤ IntKind.u64.wrap x3 then spec_l04Lengths_l1 k p0 r1 x3 k (bShl .i64 1 (IntKind.u64.wrap x3)) x4 ((List.replicate (bShl .i64 1 (IntKind.u64.wrap p0.p)).toNat (0 : Int)).set (bShl .i64 1 (IntKind.u64.wrap x3)).toNat (bShl .i64 1 (IntKind.u64.wrap x3))) else none) else none) else none) else none) else none) else none) : Option (List Bool)).bind fun s49 => spec_l04Lengths_l0 k p0 r1 k0 (w64 (x3 + 1)) s49 else some x4)
def spec_l04Lengths_l4 (p0 : Col) (s50 : List Bool) : Nat → Int → (List Int) → Option (List Int)
 | 0, _, _ => none
 | k4 + 1, x51, x52 => (if decide (x51 ≤ p0.p) then ((if 0 ≤ x51 ∧ x51 < (s50.length : Int) then (if (s50.getD x51.toNat false) then (if x52.length + ([x51]).length ≤ 1099511627776 then some (x52 ++ ([x51])) else none) else some x52) else none) : Option (List Int)).bind fun s57 => spec_l04Lengths_l4 p0 s50 k4 (w64 (x51 + 1)) s57 else some x52)
def spec_l04Lengths (k : Nat) (p0 : Col) (p1 : Int) : Option (List Int) :=
 (spec_l02Rows k p0 p1).bind fun r1 => (if 0 ≤ w64 (p0.p + 1) ∧ w64 (p0.p + 1) ≤ w64 (p0.p + 1) ∧ w64 (p0.p + 1) ≤ 1099511627776 then (spec_l04Lengths_l0 k p0 r1 k 0 (List.replicate (w64 (p0.p + 1)).toNat (false : Bool)) : Option (List Bool)).bind fun s50 => (spec_l04Lengths_l4 p0 s50 k 3 ([] : List Int) : Option (List Int)).bind fun s58 => some s58 else none)
set_option maxRecDepth 100000 in
theorem spec_l04Lengths_ac (k : Nat) (p0 : Col) (p1 : Int) (r : List Int) (h : spec_l04Lengths k p0 p1 = some r) : AC Try.prog 57 [.d (.agg (colD p0)), iV p1] [] (fun res H' => res = [.vec 0 0] ∧ H' = [.vec 0 (intsD r)]) := by
 refine AC_of_body true Try.func57 rfl Try.ntmps57 (rvs := [.tmp 4]) rfl rfl (fun G hG => ?_)
 have hm : G.H.length = 0 := by rw [hG]; rfl
 have hz : zeroG G.H = true := by rw [hG]; rfl
 unfold spec_l04Lengths at h
 refine kR ?_
 refine AOps_boxI 2 _ _ (.agg (colD p0)) (colD p0) rfl (colD_one _) rfl rfl rfl rfl rfl ?_
 refine kN 1 rfl ?_
 obtain ⟨r1, hr1, h⟩ := bindO h
 refine ACode_seqJ (fun E' H' => Weak 144 G E' H' [(5, .vec 0 0), (6, iV p0.p)] [.vec 0 (intsD r1)]) ?_ ?_
 ·refine ACode_any mixed ?_
  refine AAny_q 0 17 _ rfl (by kernel_rfl) rfl rfl rfl (QOp_loadN_pv _ _ _ _ _ _ rfl Try.isAgg27 Try.sizeOf27 rfl (colD_all _) (colD_length _)) ?_
  refine AAny_q 1 18 _ rfl (by kernel_rfl) rfl rfl rfl (QOp_move _ _ rfl rfl) ?_
  refine AAny_q 3 20 _ rfl (by kernel_rfl) rfl rfl rfl (QOp_fieldAddr_pv _ _ _ _ _ 0 _ _ rfl Try.underlying27 rfl _ Try.sizeOf2 rfl rfl) ?_
  refine AAny_q 4 21 _ rfl (by kernel_rfl) rfl rfl rfl (QOp_load_pv _ _ _ _ _ rfl Try.isAgg2 rfl rfl) ?_
  refine AAny_all [2] (by kernel_rfl) rfl (allc ?_ (fun _ h => nomatch h))
  refine AStep_callN 2 19 _ _ _ _ _ _ _ _ _ rfl rfl rfl rfl rfl rfl rfl rfl Try.call80 rfl rfl rfl (spec_l02Rows_ac k p0 p1 _ hr1) ?_
  rintro _ _ ⟨rfl, rfl⟩
  refine ⟨(allc (fun _ _ => trivial) (fun _ h => nomatch h)), (allc (trivial) (fun _ h => nomatch h)), AAny_as 19 (v' := .vec 0 0) (H' := [.vec 0 (intsD r1)]) rfl rfl ?_⟩
  refine AAny_q 5 5 _ rfl (by kernel_rfl) rfl rfl rfl (QOp_assign _ _ rfl rfl) ?_
  refine AAny_q 6 6 _ rfl (by kernel_rfl) rfl rfl rfl (QOp_assign _ _ rfl rfl) ?_
  refine AAny_done (by kernel_rfl) ?_
  exact Weak_keep 0 hm [5, 6] [0] _ _ rfl rfl rfl
 intro E' H' hw
 refine ACode_weak hw ?_
 refine kR ?_
 refine kM 1 rfl ?_
 refine AOps_q 23 _ rfl rfl rfl (QOp_add _ _ _ _ _ _ _ rfl rfl rfl) ?_
 obtain ⟨hc2, h⟩ := guardO h
 refine AOps_makeSliceG bosD bD false (bosD_rep · _) 24 _ _ _ _ _ _ (w64 (p0.p + 1)) (w64 (p0.p + 1)) _ (.bool false) rfl rfl rfl rfl rfl rfl Try.underlying56 Try.type4 rfl rfl (by decide) rfl rfl hc2.1 hc2.2.1 hc2.2.2 ?_
 refine kN 1 rfl ?_
 refine kB (fun s50 => [(6, iV p0.p), (7, .vec 0 0)]) (fun s50 => [.vec 0 (bosD s50)]) h (fun s50 h => ?_) (fun s50 h => ?_)
 ·refine kR ?_
  refine kN 1 rfl ?_
  refine ACode_block ?_
  refine ACode_loopW (fun k0 E H => ∃ (x3 : Int) (x4 : List Bool), E = [(5, .vec 0 0), (6, iV p0.p), (7, .vec 1 0), (8, iV x3)] ∧ H = [.vec 0 (intsD r1), .vec 0 (bosD x4)] ∧ spec_l04Lengths_l0 k p0 r1 k0 x3 x4 = some s50) k _ _ (Weak_keep 0 hm [5, 6, 7, 8] [0, 1] _ _ rfl rfl rfl) ⟨_, _, rfl, rfl, h⟩ ?_
  clear h
  rintro k0 E H ⟨x3, x4, rfl, rfl, h⟩
  cases k0 with
  | zero => cases (show (none : Option (List Bool)) = some _ from h)
  | succ k0 =>
   rw [spec_l04Lengths_l0] at h
   refine ACode_seq ?_
   refine kR ?_
   refine kM 2 rfl ?_
   refine AOps_q 27 _ rfl rfl rfl (QOp_lss _ _ _ _ _ _ _ rfl rfl rfl) ?_
   refine AOps_nil ?_
   refine kI h rfl (fun h _ => ?_) (fun h _ => ?_)
   ·refine ACode_skip ?_
    refine kB (fun s49 => [(5, .vec 0 0), (6, iV p0.p), (7, .vec 1 0), (8, iV x3)]) (fun s49 => [.vec 0 (intsD r1), .vec 0 (bosD s49)]) h (fun s49 h => ?_) (fun s49 h => ?_)
    ·refine ACode_block ?_
     refine kR ?_
     refine kM 1 rfl ?_
     refine AOps_q 31 _ rfl rfl rfl (QOp_conv _ _ _ _ _ _ rfl rfl Try.underlying93 rfl) ?_
     obtain ⟨hc6, h⟩ := guardO h
     refine AOps_q 32 _ rfl rfl rfl (QOp_shl _ _ _ _ _ _ _ _ hc6 rfl rfl rfl) ?_
     obtain ⟨hc7, h⟩ := guardO h
     refine AOps_makeSliceG intsD iD 0 (intsD_rep · _) 33 _ _ _ _ _ _ (bShl .i64 1 (IntKind.u64.wrap p0.p)) (bShl .i64 1 (IntKind.u64.wrap p0.p)) _ (.int .i64 0) rfl rfl rfl rfl rfl rfl Try.underlying34 Try.type2 rfl rfl (by decide) rfl rfl hc7.1 hc7.2.1 hc7.2.2 ?_
     refine kN 1 rfl ?_
     refine kR ?_
     refine kM 2 rfl ?_
     refine AOps_q 36 _ rfl rfl rfl (QOp_conv _ _ _ _ _ _ rfl rfl Try.underlying93 rfl) ?_
     obtain ⟨hc8, h⟩ := guardO h
     refine AOps_q 37 _ rfl rfl rfl (QOp_shl _ _ _ _ _ _ _ _ hc8 rfl rfl rfl) ?_
     refine kM 1 rfl ?_
     refine AOps_q 39 _ rfl rfl rfl (QOp_conv _ _ _ _ _ _ rfl rfl Try.underlying93 rfl) ?_
     obtain ⟨hc9, h⟩ := guardO h
     refine AOps_q 40 _ rfl rfl rfl (QOp_shl _ _ _ _ _ _ _ _ hc9 rfl rfl rfl) ?_
     obtain ⟨hc10, h⟩ := guardO h
     refine AOps_q 41 _ rfl rfl rfl (QOp_indexAddr_vec _ _ _ _ _ _ _ _ _ rfl Try.underlying34 Try.sizeOf2 hc10.1 (by rw [intsD_length]; exact hc10.2) rfl rfl rfl) ?_
     refine AOps_store_eptr _ _ _ _ _ _ (intsD (List.replicate (bShl .i64 1 (IntKind.u64.wrap p0.p)).toNat (0 : Int))) _ rfl rfl rfl rfl rfl rfl rfl Try.sizeOf2 (by rw [intsD_length]; omega) ?_
     rw [intsD_set]
     refine AOps_nil ?_
     refine kR ?_
     refine kM 1 rfl ?_
     refine AOps_q 43 _ rfl rfl rfl (QOp_conv _ _ _ _ _ _ rfl rfl Try.underlying93 rfl) ?_
     obtain ⟨hc11, h⟩ := guardO h
     refine AOps_q 44 _ rfl rfl rfl (QOp_shl _ _ _ _ _ _ _ _ hc11 rfl rfl rfl) ?_
     refine kN 1 rfl ?_
     refine ACode_block ?_
     refine ACode_loopW (fun k1 E H => ∃ (x12 : Int) (x13 : List Bool) (x14 : List Int), E = [(5, .vec 0 0), (6, iV p0.p), (7, .vec 1 0), (8, iV x3), (9, .vec 2 0), (10, iV x12)] ∧ H = [.vec 0 (intsD r1), .vec 0 (bosD x13), .vec 0 (intsD x14)] ∧ spec_l04Lengths_l1 k p0 r1 x3 k1 x12 x13 x14 = some s49) k _ _ (Weak_keep 0 hm [5, 6, 7, 8, 9, 10] [0, 1, 2] _ _ rfl rfl rfl) ⟨_, _, _, rfl, rfl, h⟩ ?_
     clear h
     rintro k1 E H ⟨x12, x13, x14, rfl, rfl, h⟩
     cases k1 with
     | zero => cases (show (none : Option (List Bool)) = some _ from h)
     | succ k1 =>
      rw [spec_l04Lengths_l1] at h
      refine ACode_seq ?_
      refine kR ?_
      refine kM 2 rfl ?_
      refine AOps_q 47 _ rfl rfl rfl (QOp_len_vec _ _ _ _ _ _ _ _ (intsD_length _) rfl rfl rfl rfl Try.underlying34 rfl rfl) ?_
      refine AOps_q 48 _ rfl rfl rfl (QOp_lss _ _ _ _ _ _ _ rfl rfl rfl) ?_
      refine AOps_nil ?_
      refine kI h rfl (fun h _ => ?_) (fun h _ => ?_)
      ·refine ACode_skip ?_
       refine kB (fun s48 => [(5, .vec 0 0), (6, iV p0.p), (7, .vec 1 0), (8, iV x3), (9, .vec 2 0), (10, iV x12)]) (fun s48 => [.vec 0 (intsD r1), .vec 0 (bosD s48.1), .vec 0 (intsD s48.2)]) h (fun s48 h => ?_) (fun s48 h => ?_)
       ·refine ACode_block ?_
        refine ACode_seq ?_
        refine kR ?_
        refine kM 2 rfl ?_
        obtain ⟨hc16, h⟩ := guardO h
        refine AOps_q 53 _ rfl rfl rfl (QOp_indexAddr_vec _ _ _ _ _ _ _ _ _ rfl Try.underlying34 Try.sizeOf2 hc16.1 (by rw [intsD_length]; exact hc16.2) rfl rfl rfl) ?_
        refine AOps_q 54 _ rfl rfl rfl (QOp_load_eptr _ _ _ _ _ _ _ rfl Try.isAgg2 rfl rfl (intsD_get _ _ 0 (by omega))) ?_
        refine AOps_q 55 _ rfl rfl rfl (QOp_eql _ _ _ _ _ _ _ rfl rfl rfl) ?_
        refine AOps_nil ?_
        refine kI h rfl (fun h _ => ?_) (fun h _ => ?_)
        ·refine ACode_exit ?_
         cases h
         exact Weak_keep 0 hm [5, 6, 7, 8, 9, 10] [0, 1, 2] _ _ rfl rfl rfl
        refine ACode_skip ?_
        refine kR ?_
        refine kN 2 rfl ?_
        refine ACode_block ?_
        refine ACode_loopW (fun k2 E H => ∃ (x18 : Int) (x19 : List Bool) (x20 : List Int), E = [(5, .vec 0 0), (6, iV p0.p), (7, .vec 1 0), (8, iV x3), (9, .vec 2 0), (10, iV x12), (11, iV x18)] ∧ H = [.vec 0 (intsD r1), .vec 0 (bosD x19), .vec 0 (intsD x20)] ∧ spec_l04Lengths_l2 k p0 r1 x3 x12 k2 x18 x19 x20 = some s48) k _ _ (Weak_keep 0 hm [5, 6, 7, 8, 9, 10, 11] [0, 1, 2] _ _ rfl rfl rfl) ⟨_, _, _, rfl, rfl, h⟩ ?_
        clear h
        rintro k2 E H ⟨x18, x19, x20, rfl, rfl, h⟩
        cases k2 with
        | zero => cases (show (none : Option (List Bool × List Int)) = some _ from h)
        | succ k2 =>
         rw [spec_l04Lengths_l2] at h
         refine ACode_seq ?_
         refine kR ?_
         refine kM 2 rfl ?_
         refine AOps_q 59 _ rfl rfl rfl (QOp_lss _ _ _ _ _ _ _ rfl rfl rfl) ?_
         refine AOps_nil ?_
         refine kI h rfl (fun h _ => ?_) (fun h _ => ?_)
         ·refine ACode_skip ?_
          refine kB (fun s47 => [(5, .vec 0 0), (6, iV p0.p), (7, .vec 1 0), (8, iV x3), (9, .vec 2 0), (10, iV x12), (11, iV x18)]) (fun s47 => [.vec 0 (intsD r1), .vec 0 (bosD s47.1), .vec 0 (intsD s47.2)]) h (fun s47 h => ?_) (fun s47 h => ?_)
          ·refine ACode_block ?_
           refine ACode_seq ?_
           refine kR ?_
           refine kM 2 rfl ?_
           obtain ⟨hc22, h⟩ := guardO h
           refine AOps_q 64 _ rfl rfl rfl (QOp_indexAddr_vec _ _ _ _ _ _ _ _ _ rfl Try.underlying34 Try.sizeOf2 hc22.1 (by rw [intsD_length]; exact hc22.2) rfl rfl rfl) ?_
           refine AOps_q 65 _ rfl rfl rfl (QOp_load_eptr _ _ _ _ _ _ _ rfl Try.isAgg2 rfl rfl (intsD_get _ _ 0 (by omega))) ?_
           refine kM 1 rfl ?_
           refine AOps_q 67 _ rfl rfl rfl (QOp_conv _ _ _ _ _ _ rfl rfl Try.underlying93 rfl) ?_
           obtain ⟨hc23, h⟩ := guardO h
           refine AOps_q 68 _ rfl rfl rfl (QOp_shr _ _ _ _ _ _ _ _ hc23 rfl rfl rfl) ?_
           refine AOps_q 69 _ rfl rfl rfl (QOp_and _ _ _ _ _ _ _ rfl rfl rfl) ?_
           refine AOps_q 70 _ rfl rfl rfl (QOp_eql _ _ _ _ _ _ _ rfl rfl rfl) ?_
           refine AOps_nil ?_
           refine kI h rfl (fun h _ => ?_) (fun h _ => ?_)
           ·refine ACode_exit ?_
            cases h
            exact Weak_keep 0 hm [5, 6, 7, 8, 9, 10, 11] [0, 1, 2] _ _ rfl rfl rfl
           refine ACode_skip ?_
           refine kB (fun s32 => [(5, .vec 0 0), (6, iV p0.p), (7, .vec 1 0), (8, iV x3), (9, .vec 2 0), (10, iV x12), (11, iV x18)]) (fun s32 => [.vec 0 (intsD r1), .vec 0 (bosD s32), .vec 0 (intsD x20)]) h (fun s32 h => ?_) (fun s32 h => ?_)
           ·refine kR ?_
            refine kM 1 rfl ?_
            obtain ⟨r25, hr25, h⟩ := bindO h
            refine kC [] 72 (iV r25) [.vec 0 (intsD r1), .vec 0 (bosD x19), .vec 0 (intsD x20)] rfl Try.call82 rfl rfl (spec_l01Ones_ac k x12 _ hr25) rfl ?_
            refine kN 1 rfl ?_
            refine kB (fun s29 => [(5, .vec 0 0), (6, iV p0.p), (7, .vec 1 0), (8, iV x3), (9, .vec 2 0), (10, iV x12), (11, iV x18), (12, iV r25), (85, bV s29)]) (fun s29 => [.vec 0 (intsD r1), .vec 0 (bosD x19), .vec 0 (intsD x20)]) h (fun s29 h => ?_) (fun s29 h => ?_)
            ·refine (ACode_region ?_)
             refine kM 1 rfl ?_
             refine AOps_q 74 _ rfl rfl rfl (QOp_gtr _ _ _ _ _ _ _ rfl rfl rfl) ?_
             refine kM 1 rfl ?_
             refine AOps_case 75 _ rfl (fun hb26 => ?_) (fun hb26 => ?_)
             ·have h := iteT hb26 h
              refine kM 2 rfl ?_
              obtain ⟨hc27, h⟩ := guardO h
              refine AOps_q 78 _ rfl rfl rfl (QOp_indexAddr_vec _ _ _ _ _ _ _ _ _ rfl Try.underlying34 Try.sizeOf2 hc27.1 (by rw [intsD_length]; exact hc27.2) rfl rfl rfl) ?_
              refine AOps_q 79 _ rfl rfl rfl (QOp_load_eptr _ _ _ _ _ _ _ rfl Try.isAgg2 rfl rfl (intsD_get _ _ 0 (by omega))) ?_
              refine kM 1 rfl ?_
              refine AOps_q 81 _ rfl rfl rfl (QOp_conv _ _ _ _ _ _ rfl rfl Try.underlying93 rfl) ?_
              obtain ⟨hc28, h⟩ := guardO h
              refine AOps_q 82 _ rfl rfl rfl (QOp_shr _ _ _ _ _ _ _ _ hc28 rfl rfl rfl) ?_
              refine AOps_q 83 _ rfl rfl rfl (QOp_and _ _ _ _ _ _ _ rfl rfl rfl) ?_
              refine AOps_q 84 _ rfl rfl rfl (QOp_eql _ _ _ _ _ _ _ rfl rfl rfl) ?_
              refine kN 1 rfl ?_
              cases h
              exact Weak_keep 0 hm [5, 6, 7, 8, 9, 10, 11, 12, 85] [0, 1, 2] _ _ rfl rfl rfl
             have h := iteF hb26 h
             refine AOps_skip 76 rfl rfl rfl ?_
             refine AOps_skip 77 rfl rfl rfl ?_
             refine AOps_skip 78 rfl rfl rfl ?_
             refine AOps_skip 79 rfl rfl rfl ?_
             refine AOps_skip 80 rfl rfl rfl ?_
             refine AOps_skip 81 rfl rfl rfl ?_
             refine AOps_skip 82 rfl rfl rfl ?_
             refine AOps_skip 83 rfl rfl rfl ?_
             refine AOps_skip 84 rfl rfl rfl ?_
             refine kN 1 rfl ?_
             cases h
             exact Weak_keep 0 hm [5, 6, 7, 8, 9, 10, 11, 12, 85] [0, 1, 2] _ _ rfl rfl rfl
            refine kI h rfl (fun h _ => ?_) (fun h _ => ?_)
            ·refine (ACode_region ?_)
             refine kM 2 rfl ?_
             obtain ⟨hc31, h⟩ := guardO h
             refine AOps_q 88 _ rfl rfl rfl (QOp_indexAddr_vec _ _ _ _ _ _ _ _ _ rfl Try.underlying56 Try.sizeOf4 hc31.1 (by rw [bosD_length]; exact hc31.2) rfl rfl rfl) ?_
             refine AOps_store_eptr _ _ _ _ _ _ (bosD x19) _ rfl rfl rfl rfl rfl rfl rfl Try.sizeOf4 (by rw [bosD_length]; omega) ?_
             rw [bosD_set]
             refine AOps_nil ?_
             cases h
             exact Weak_keep 0 hm [5, 6, 7, 8, 9, 10, 11] [0, 1, 2] _ _ rfl rfl rfl
            refine ACode_skip ?_
            cases h
            exact Weak_keep 0 hm [5, 6, 7, 8, 9, 10, 11] [0, 1, 2] _ _ rfl rfl rfl
           refine kR ?_
           refine kM 1 rfl ?_
           refine AOps_q 90 _ rfl rfl rfl (QOp_add _ _ _ _ _ _ _ rfl rfl rfl) ?_
           refine kN 1 rfl ?_
           refine ACode_block ?_
           refine ACode_loopW (fun k3 E H => ∃ (x33 : Int) (x34 : List Int), E = [(5, .vec 0 0), (6, iV p0.p), (7, .vec 1 0), (8, iV x3), (9, .vec 2 0), (10, iV x12), (11, iV x18), (13, iV x33)] ∧ H = [.vec 0 (intsD r1), .vec 0 (bosD s32), .vec 0 (intsD x34)] ∧ spec_l04Lengths_l3 p0 r1 x12 x18 s32 k3 x33 x34 = some s47) k _ _ (Weak_keep 0 hm [5, 6, 7, 8, 9, 10, 11, 13] [0, 1, 2] _ _ rfl rfl rfl) ⟨_, _, rfl, rfl, h⟩ ?_
           clear h
           rintro k3 E H ⟨x33, x34, rfl, rfl, h⟩
           cases k3 with
           | zero => cases (show (none : Option (List Bool × List Int)) = some _ from h)
           | succ k3 =>
            rw [spec_l04Lengths_l3] at h
            refine ACode_seq ?_
            refine kR ?_
            refine kM 2 rfl ?_
            refine AOps_q 93 _ rfl rfl rfl (QOp_lss _ _ _ _ _ _ _ rfl rfl rfl) ?_
            refine AOps_nil ?_
            refine kI h rfl (fun h _ => ?_) (fun h _ => ?_)
            ·refine ACode_skip ?_
             refine kB (fun s46 => [(5, .vec 0 0), (6, iV p0.p), (7, .vec 1 0), (8, iV x3), (9, .vec 2 0), (10, iV x12), (11, iV x18), (13, iV x33)]) (fun s46 => [.vec 0 (intsD r1), .vec 0 (bosD s32), .vec 0 (intsD s46)]) h (fun s46 h => ?_) (fun s46 h => ?_)
             ·refine ACode_block ?_
              refine kB (fun s40 => [(5, .vec 0 0), (6, iV p0.p), (7, .vec 1 0), (8, iV x3), (9, .vec 2 0), (10, iV x12), (11, iV x18), (13, iV x33), (112, bV s40)]) (fun s40 => [.vec 0 (intsD r1), .vec 0 (bosD s32), .vec 0 (intsD x34)]) h (fun s40 h => ?_) (fun s40 h => ?_)
              ·refine (ACode_region ?_)
               refine kM 2 rfl ?_
               obtain ⟨hc36, h⟩ := guardO h
               refine AOps_q 98 _ rfl rfl rfl (QOp_indexAddr_vec _ _ _ _ _ _ _ _ _ rfl Try.underlying34 Try.sizeOf2 hc36.1 (by rw [intsD_length]; exact hc36.2) rfl rfl rfl) ?_
               refine AOps_q 99 _ rfl rfl rfl (QOp_load_eptr _ _ _ _ _ _ _ rfl Try.isAgg2 rfl rfl (intsD_get _ _ 0 (by omega))) ?_
               refine kM 1 rfl ?_
               refine AOps_q 101 _ rfl rfl rfl (QOp_conv _ _ _ _ _ _ rfl rfl Try.underlying93 rfl) ?_
               obtain ⟨hc37, h⟩ := guardO h
               refine AOps_q 102 _ rfl rfl rfl (QOp_shr _ _ _ _ _ _ _ _ hc37 rfl rfl rfl) ?_
               refine AOps_q 103 _ rfl rfl rfl (QOp_and _ _ _ _ _ _ _ rfl rfl rfl) ?_
               refine AOps_q 104 _ rfl rfl rfl (QOp_eql _ _ _ _ _ _ _ rfl rfl rfl) ?_
               refine kM 1 rfl ?_
               refine AOps_case 105 _ rfl (fun hb38 => ?_) (fun hb38 => ?_)
               ·have h := iteT hb38 h
                refine kM 2 rfl ?_
                refine AOps_q 108 _ rfl rfl rfl (QOp_conv _ _ _ _ _ _ rfl rfl Try.underlying93 rfl) ?_
                obtain ⟨hc39, h⟩ := guardO h
                refine AOps_q 109 _ rfl rfl rfl (QOp_shr _ _ _ _ _ _ _ _ hc39 rfl rfl rfl) ?_
                refine AOps_q 110 _ rfl rfl rfl (QOp_and _ _ _ _ _ _ _ rfl rfl rfl) ?_
                refine AOps_q 111 _ rfl rfl rfl (QOp_eql _ _ _ _ _ _ _ rfl rfl rfl) ?_
                refine kN 1 rfl ?_
                cases h
                exact Weak_keep 0 hm [5, 6, 7, 8, 9, 10, 11, 13, 112] [0, 1, 2] _ _ rfl rfl rfl
               have h := iteF hb38 h
               refine AOps_skip 106 rfl rfl rfl ?_
               refine AOps_skip 107 rfl rfl rfl ?_
               refine AOps_skip 108 rfl rfl rfl ?_
               refine AOps_skip 109 rfl rfl rfl ?_
               refine AOps_skip 110 rfl rfl rfl ?_
               refine AOps_skip 111 rfl rfl rfl ?_
               refine kN 1 rfl ?_
               cases h
               exact Weak_keep 0 hm [5, 6, 7, 8, 9, 10, 11, 13, 112] [0, 1, 2] _ _ rfl rfl rfl
              refine kI h rfl (fun h _ => ?_) (fun h _ => ?_)
              ·refine kR ?_
               refine kM 2 rfl ?_
               refine AOps_q 115 _ rfl rfl rfl (QOp_conv _ _ _ _ _ _ rfl rfl Try.underlying93 rfl) ?_
               obtain ⟨hc42, h⟩ := guardO h
               refine AOps_q 116 _ rfl rfl rfl (QOp_shl _ _ _ _ _ _ _ _ hc42 rfl rfl rfl) ?_
               refine AOps_q 117 _ rfl rfl rfl (QOp_or _ _ _ _ _ _ _ rfl rfl rfl) ?_
               refine kN 1 rfl ?_
               refine (ACode_region ?_)
               refine kM 4 rfl ?_
               obtain ⟨hc43, h⟩ := guardO h
               refine AOps_q 122 _ rfl rfl rfl (QOp_indexAddr_vec _ _ _ _ _ _ _ _ _ rfl Try.underlying34 Try.sizeOf2 hc43.1 (by rw [intsD_length]; exact hc43.2) rfl rfl rfl) ?_
               refine AOps_q 123 _ rfl rfl rfl (QOp_load_eptr _ _ _ _ _ _ _ rfl Try.isAgg2 rfl rfl (intsD_get _ _ 0 (by omega))) ?_
               refine kM 1 rfl ?_
               refine AOps_q 125 _ rfl rfl rfl (QOp_conv _ _ _ _ _ _ rfl rfl Try.underlying93 rfl) ?_
               obtain ⟨hc44, h⟩ := guardO h
               refine AOps_q 126 _ rfl rfl rfl (QOp_shl _ _ _ _ _ _ _ _ hc44 rfl rfl rfl) ?_
               refine AOps_q 127 _ rfl rfl rfl (QOp_or _ _ _ _ _ _ _ rfl rfl rfl) ?_
               obtain ⟨hc45, h⟩ := guardO h
               refine AOps_q 128 _ rfl rfl rfl (QOp_indexAddr_vec _ _ _ _ _ _ _ _ _ rfl Try.underlying34 Try.sizeOf2 hc45.1 (by rw [intsD_length]; exact hc45.2) rfl rfl rfl) ?_
               refine AOps_store_eptr _ _ _ _ _ _ (intsD x34) _ rfl rfl rfl rfl rfl rfl rfl Try.sizeOf2 (by rw [intsD_length]; omega) ?_
               rw [intsD_set]
               refine AOps_nil ?_
               cases h
               exact Weak_keep 0 hm [5, 6, 7, 8, 9, 10, 11, 13] [0, 1, 2] _ _ rfl rfl rfl
              refine ACode_skip ?_
              cases h
              exact Weak_keep 0 hm [5, 6, 7, 8, 9, 10, 11, 13] [0, 1, 2] _ _ rfl rfl rfl
             refine (ACode_region ?_)
             refine kM 1 rfl ?_
             refine AOps_q 95 _ rfl rfl rfl (QOp_add _ _ _ _ _ _ _ rfl rfl rfl) ?_
             refine kN 1 rfl ?_
             exact ⟨k3, _, _, Nat.lt_succ_self _, Weak_keep 0 hm [5, 6, 7, 8, 9, 10, 11, 13] [0, 1, 2] _ _ rfl rfl rfl, _, _, rfl, rfl, h⟩
            refine ACode_exit ?_
            cases h
            exact Weak_keep 0 hm [5, 6, 7, 8, 9, 10, 11] [0, 1, 2] _ _ rfl rfl rfl
          refine (ACode_region ?_)
          refine kM 1 rfl ?_
          refine AOps_q 61 _ rfl rfl rfl (QOp_add _ _ _ _ _ _ _ rfl rfl rfl) ?_
          refine kN 1 rfl ?_
          exact ⟨k2, _, _, Nat.lt_succ_self _, Weak_keep 0 hm [5, 6, 7, 8, 9, 10, 11] [0, 1, 2] _ _ rfl rfl rfl, _, _, _, rfl, rfl, h⟩
         refine ACode_exit ?_
         cases h
         exact Weak_keep 0 hm [5, 6, 7, 8, 9, 10] [0, 1, 2] _ _ rfl rfl rfl
       refine (ACode_region ?_)
       refine kM 1 rfl ?_
       refine AOps_q 50 _ rfl rfl rfl (QOp_add _ _ _ _ _ _ _ rfl rfl rfl) ?_
       refine kN 1 rfl ?_
       exact ⟨k1, _, _, Nat.lt_succ_self _, Weak_keep 0 hm [5, 6, 7, 8, 9, 10] [0, 1, 2] _ _ rfl rfl rfl, _, _, _, rfl, rfl, h⟩
      refine ACode_exit ?_
      cases h
      exact Weak_keep 0 hm [5, 6, 7, 8] [0, 1] _ _ rfl rfl rfl
    refine (ACode_region ?_)
    refine kM 1 rfl ?_
    refine AOps_q 29 _ rfl rfl rfl (QOp_add _ _ _ _ _ _ _ rfl rfl rfl) ?_
    refine kN 1 rfl ?_
    exact ⟨k0, _, _, Nat.lt_succ_self _, Weak_keep 0 hm [5, 6, 7, 8] [0, 1] _ _ rfl rfl rfl, _, _, rfl, rfl, h⟩
   refine ACode_exit ?_
   cases h
   exact Weak_keep 0 hm [6, 7] [1] _ _ rfl rfl rfl
 refine kR ?_
 refine AOps_buildSlice 129 _ _ _ [] (intsD ([] : List Int)) _ rfl rfl rfl rfl rfl (by decide) Try.underlying34 Try.sizeOf2 (zero_of Try.typeInfo2 rfl) rfl rfl (intsD_one _) ?_
 refine kN 1 rfl ?_
 refine kB (fun s58 => [(15, .vec 0 0)]) (fun s58 => [.vec 0 (intsD s58)]) h (fun s58 h => ?_) (fun s58 h => ?_)
 ·refine kR ?_
  refine kN 1 rfl ?_
  refine ACode_block ?_
  refine ACode_loopW (fun k4 E H => ∃ (x51 : Int) (x52 : List Int), E = [(6, iV p0.p), (7, .vec 0 0), (15, .vec 1 0), (16, iV x51)] ∧ H = [.vec 0 (bosD s50), .vec 0 (intsD x52)] ∧ spec_l04Lengths_l4 p0 s50 k4 x51 x52 = some s58) k _ _ (Weak_keep 0 hm [6, 7, 15, 16] [0, 1] _ _ rfl rfl rfl) ⟨_, _, rfl, rfl, h⟩ ?_
  clear h
  rintro k4 E H ⟨x51, x52, rfl, rfl, h⟩
  cases k4 with
  | zero => cases (show (none : Option (List Int)) = some _ from h)
  | succ k4 =>
   rw [spec_l04Lengths_l4] at h
   refine ACode_seq ?_
   refine kR ?_
   refine kM 2 rfl ?_
   refine AOps_q 132 _ rfl rfl rfl (QOp_leq _ _ _ _ _ _ _ rfl rfl rfl) ?_
   refine AOps_nil ?_
   refine kI h rfl (fun h _ => ?_) (fun h _ => ?_)
   ·refine ACode_skip ?_
    refine kB (fun s57 => [(6, iV p0.p), (7, .vec 0 0), (15, .vec 1 0), (16, iV x51)]) (fun s57 => [.vec 0 (bosD s50), .vec 0 (intsD s57)]) h (fun s57 h => ?_) (fun s57 h => ?_)
    ·refine ACode_block ?_
     refine kR ?_
     refine kM 2 rfl ?_
     obtain ⟨hc54, h⟩ := guardO h
     refine AOps_q 137 _ rfl rfl rfl (QOp_indexAddr_vec _ _ _ _ _ _ _ _ _ rfl Try.underlying56 Try.sizeOf4 hc54.1 (by rw [bosD_length]; exact hc54.2) rfl rfl rfl) ?_
     refine AOps_q 138 _ rfl rfl rfl (QOp_load_eptr _ _ _ _ _ _ _ rfl Try.isAgg4 rfl rfl (bosD_get _ _ false (by omega))) ?_
     refine AOps_nil ?_
     refine kI h rfl (fun h _ => ?_) (fun h _ => ?_)
     ·refine (ACode_region ?_)
      refine kM 2 rfl ?_
      refine AOps_buildSlice 141 _ _ _ [_] (intsD ([x51])) _ rfl rfl rfl rfl rfl (by decide) Try.underlying34 Try.sizeOf2 (zero_of Try.typeInfo2 rfl) rfl rfl (intsD_one _) ?_
      obtain ⟨hc56, h⟩ := guardO h
      refine AOps_append 142 _ _ _ _ _ _ _ _ _ _ _ _ rfl rfl rfl rfl rfl rfl rfl Try.underlying34 Try.type2 rfl rfl rfl (by decide) rfl rfl rfl rfl (intsD_one _) (by rw [intsD_length, intsD_length]; exact hc56) ?_
      rw [intsD_app]
      refine kN 1 rfl ?_
      cases h
      exact Weak_trans (Weak_keep 0 hm [6, 7, 15, 16] [0, 1] _ _ rfl rfl rfl) (Weak_reset 0 hm hz [6, 7, 15, 16] _ _ rfl rfl)
     refine ACode_skip ?_
     cases h
     exact Weak_keep 0 hm [6, 7, 15, 16] [0, 1] _ _ rfl rfl rfl
    refine (ACode_region ?_)
    refine kM 1 rfl ?_
    refine AOps_q 134 _ rfl rfl rfl (QOp_add _ _ _ _ _ _ _ rfl rfl rfl) ?_
    refine kN 1 rfl ?_
    exact ⟨k4, _, _, Nat.lt_succ_self _, Weak_keep 0 hm [6, 7, 15, 16] [0, 1] _ _ rfl rfl rfl, _, _, rfl, rfl, h⟩
   refine ACode_exit ?_
   cases h
   exact Weak_keep 0 hm [15] [1] _ _ rfl rfl rfl
 refine kR ?_
 refine kN 2 rfl ?_
 refine ACode_ret ?_
 cases h
 exact ⟨_, _, Weak_reset 0 hm hz [4] _ _ rfl rfl, _, _, [0], _, (.cons (ResV_tmp _ _ rfl) .nil), rfl, rfl, rfl, rfl, rfl⟩

-- loop.example/g01362/spec.CycleLengths
def spec_CycleLengths (k : Nat) (p0 : Col) (p1 : Int) : Option (List Int × Int) :=
 (spec_l04Code k p0 p1 true).bind fun r1 => (if !decide (r1 = 0) then some ([], r1) else (spec_l04Lengths k p0 p1).bind fun r3 => some (r3, 0))
set_option maxRecDepth 100000 in
theorem spec_CycleLengths_ac (k : Nat) (p0 : Col) (p1 : Int) (r : List Int × Int) (h : spec_CycleLengths k p0 p1 = some r) : AC Try.prog 15 [.d (.agg (colD p0)), iV p1] [] (fun res H' => res = [.d (.sl none (intsD r.1)), iV r.2] ∧ H' = []) := by
 refine AC_of_body true Try.func15 rfl Try.ntmps15 (rvs := [.tmp 4, .tmp 5]) rfl rfl (fun G hG => ?_)
 have hm : G.H.length = 0 := by rw [hG]; rfl
 have hz : zeroG G.H = true := by rw [hG]; rfl
 unfold spec_CycleLengths at h
 refine kR ?_
 refine AOps_boxI 2 _ _ (.agg (colD p0)) (colD p0) rfl (colD_one _) rfl rfl rfl rfl rfl ?_
 refine kN 2 rfl ?_
 refine ACode_seq ?_
 refine kR ?_
 refine AOps_q 7 _ rfl rfl rfl (QOp_loadN_pv _ _ _ _ _ _ rfl Try.isAgg27 Try.sizeOf27 rfl (colD_all _) (colD_length _)) ?_
 refine kM 1 rfl ?_
 obtain ⟨r1, hr1, h⟩ := bindO h
 refine kC [] 9 (iV r1) [] rfl Try.call39 rfl rfl (spec_l04Code_ac k p0 p1 true _ hr1) rfl ?_
 refine kN 1 rfl ?_
 refine kR ?_
 refine kM 1 rfl ?_
 refine AOps_q 11 _ rfl rfl rfl (QOp_neq _ _ _ _ _ _ _ rfl rfl rfl) ?_
 refine AOps_nil ?_
 refine kI h rfl (fun h _ => ?_) (fun h _ => ?_)
 ·refine kR ?_
  refine kN 3 rfl ?_
  refine ACode_ret ?_
  cases h
  exact ⟨_, _, fun r a w h => ⟨r, h⟩, _, _, [], _, (.cons (ResV_tmp _ _ rfl) (.cons (ResV_tmp _ _ rfl) .nil)), rfl, rfl, rfl, rfl, rfl⟩
 refine ACode_skip ?_
 refine kR ?_
 refine AOps_q 13 _ rfl rfl rfl (QOp_loadN_pv _ _ _ _ _ _ rfl Try.isAgg27 Try.sizeOf27 rfl (colD_all _) (colD_length _)) ?_
 refine kM 1 rfl ?_
 obtain ⟨r3, hr3, h⟩ := bindO h
 refine kC [] 15 (.vec 0 0) [.vec 0 (intsD r3)] rfl Try.call57 rfl rfl (spec_l04Lengths_ac k p0 p1 _ hr3) rfl ?_
 refine kN 2 rfl ?_
 refine ACode_ret ?_
 cases h
 exact ⟨_, _, fun r a w h => ⟨r, h⟩, _, _, [], _, (.cons (ResV_tmp _ _ rfl) (.cons (ResV_tmp _ _ rfl) .nil)), rfl, rfl, rfl, rfl, rfl⟩

-- loop.example/g01362/spec.DrawFirstCycle
def spec_DrawFirstCycle (k : Nat) (p0 : List UInt8) : Option (Col × Int × Int) :=
 (spec_l01From k p0).bind fun r1 => (spec_l04Draw k r1).bind fun r2 => (spec_l01Near r2.2.2 17).bind fun r3 => (spec_l01Pick r3.2 ([3, 3, 4, 4, 5, 6, r3.1])).bind fun r4 => some (r2.1, r2.2.1, r4.1)
set_option maxRecDepth 100000 in
theorem spec_DrawFirstCycle_ac (k : Nat) (p0 : List UInt8) (r : Col × Int × Int) (h : spec_DrawFirstCycle k p0 = some r) : AC Try.prog 16 [.d (.sl none (bysD p0))] [] (fun res H' => res = [.d (.agg (colD r.1)), iV r.2.1, iV r.2.2] ∧ H' = []) := by
 refine AC_of_body true Try.func16 rfl Try.ntmps16 (rvs := [.cell 2 27, .tmp 3, .tmp 4]) rfl rfl (fun G hG => ?_)
 have hm : G.H.length = 0 := by rw [hG]; rfl
 have hz : zeroG G.H = true := by rw [hG]; rfl
 unfold spec_DrawFirstCycle at h
 refine kR ?_
 refine AOps_alloc 2 _ _ (colD Col.zero) (zero_of Try.typeInfo27 rfl) (by rfl) rfl rfl rfl rfl ?_
 refine kN 2 rfl ?_
 refine kR ?_
 refine kM 1 rfl ?_
 obtain ⟨r1, hr1, h⟩ := bindO h
 refine kC [] 9 (.ptr 1 0) [.box (colD Col.zero), .box (srcD r1)] rfl Try.call58 rfl rfl (spec_l01From_ac k p0 _ hr1) rfl ?_
 refine kN 1 rfl ?_
 refine kR ?_
 refine kM 1 rfl ?_
 obtain ⟨r2, hr2, h⟩ := bindO h
 refine kC [1] 12 (.tup [.d (.agg (colD r2.1)), iV r2.2.1]) [.box (colD Col.zero), .box (srcD r2.2.2)] rfl Try.call59 rfl rfl (spec_l04Draw_ac k r1 _ hr2) rfl ?_
 refine kM 3 rfl ?_
 refine AOps_alloc 6 _ _ (colD Col.zero) (zero_of Try.typeInfo27 rfl) (by rfl) rfl rfl rfl rfl ?_
 refine AOps_store _ _ _ _ _ _ (colD _) _ _ rfl rfl rfl rfl rfl rfl rfl (colD_one _) (by rw [colD_length]; exact Try.sizeOf27) (by rw [colD_length, colD_length]; decide) (colD_whole _ _) ?_
 refine kN 1 rfl ?_
 obtain ⟨r3, hr3, h⟩ := bindO h
 obtain ⟨r4, hr4, h⟩ := bindO h
 refine ACode_seq (ACode_reg [(2, .ptr 0 0), (3, iV r2.2.1), (4, iV r4.1)] [.box (colD r2.1)] ?_ ?_)
 ·refine ACode_anyU mixed ?_
  refine AU_cut 3 #[true, true, true, true, true, true, true, false, false, false] [(2, .ptr 0 0), (3, iV 0), (4, iV 0), (15, .d (.agg (colD r2.1))), (16, iV r2.2.1), (21, iV r4.1)] [.box (colD Col.zero)] ?_ (fun hS0 => ?_)
  ·refine AU_one 7 (by kernel_rfl) rfl rfl ?_
   refine AOps_store _ _ _ _ _ _ (colD _) _ _ rfl rfl rfl rfl rfl rfl rfl (colD_one _) (by rw [colD_length]; exact Try.sizeOf27) (by rw [colD_length, colD_length]; decide) (colD_whole _ _) ?_
   refine AOps_nil ?_
   refine AU_u 8 3 _ rfl (by kernel_rfl) rfl rfl rfl (UOp_assign _ _ rfl rfl) ?_
   refine AU_u 9 4 _ rfl (by kernel_rfl) rfl rfl rfl (UOp_assign _ _ rfl rfl) ?_
   refine AU_done (by kernel_rfl) ?_
   exact ⟨rfl, Weak_keep 0 hm [2, 3, 4] [0] _ _ rfl rfl rfl⟩
  refine AU_cut 4 #[true, true, true, true, true, true, false, false, false, false] [(2, .ptr 0 0), (3, iV 0), (4, iV 0), (15, .d (.agg (colD r2.1))), (16, iV r2.2.1), (17, .ptr 1 0), (20, .vec 2 0)] [.box (colD Col.zero), .box (srcD r3.2), .vec 0 (intsD ([3, 3, 4, 4, 5, 6, r3.1]))] ?_ (fun hS1 => ?_)
  ·refine AU_one 6 (by kernel_rfl) rfl rfl ?_
   refine AOps_freezeL [20] 2 0 _ (allc (rfl) (fun _ h => nomatch h)) rfl ?_
   refine kC [1] 21 (iV r4.1) [.box (colD Col.zero), .box (srcD r4.2), .gone] rfl Try.call60 rfl rfl (spec_l01Pick_ac r3.2 ([3, 3, 4, 4, 5, 6, r3.1]) _ hr4) rfl ?_
   refine AOps_nil ?_
   exact AU_to (by kernel_rfl) hS0 (Weak_keep 0 hm [2, 3, 4, 15, 16, 21] [0] _ _ rfl rfl rfl)
  refine AU_cut 5 #[true, true, true, true, true, false, false, false, false, false] [(2, .ptr 0 0), (3, iV 0), (4, iV 0), (15, .d (.agg (colD r2.1))), (16, iV r2.2.1), (17, .ptr 1 0), (19, iV r3.1)] [.box (colD Col.zero), .box (srcD r3.2)] ?_ (fun hS2 => ?_)
  ·refine AU_one 5 (by kernel_rfl) rfl rfl ?_
   refine AOps_buildSlice 20 _ _ _ [_, _, _, _, _, _, _] (intsD ([3, 3, 4, 4, 5, 6, r3.1])) _ rfl rfl rfl rfl rfl (by decide) Try.underlying34 Try.sizeOf2 (zero_of Try.typeInfo2 rfl) rfl rfl (intsD_one _) ?_
   refine AOps_nil ?_
   exact AU_to (by kernel_rfl) hS1 (Weak_keep 0 hm [2, 3, 4, 15, 16, 17, 20] [0, 1, 2] _ _ rfl rfl rfl)
  refine AU_u 1 16 _ rfl (by kernel_rfl) rfl rfl rfl (UOp_move _ _ rfl rfl) ?_
  refine AU_u 2 17 _ rfl (by kernel_rfl) rfl rfl rfl (UOp_move _ _ rfl rfl) ?_
  refine AU_u 3 18 _ rfl (by kernel_rfl) rfl rfl rfl (UOp_move _ _ rfl rfl) ?_
  refine AU_all [0, 4] (by kernel_rfl) rfl (allc ?_ (allc ?_ (fun _ h => nomatch h)))
  ·refine US_of 0 rfl rfl ?_
   refine AOps_q 15 _ rfl rfl rfl (QOp_loadN_ptr _ _ _ _ _ _ _ rfl Try.isAgg27 Try.sizeOf27 rfl rfl (colD_all _) (colD_length _)) ?_
   refine AOps_nil ?_
   refine AU_one 4 (by kernel_rfl) rfl rfl ?_
   refine kC [1] 19 (iV r3.1) [.box (colD Col.zero), .box (srcD r3.2), .box (colD r2.1)] rfl Try.call61 rfl rfl (spec_l01Near_ac r2.2.2 17 _ hr3) rfl ?_
   refine AOps_nil ?_
   exact AU_to (by kernel_rfl) hS2 (Weak_keep 0 hm [2, 3, 4, 15, 16, 17, 19] [0, 1] _ _ rfl rfl rfl)
  refine US_of 4 rfl rfl ?_
  refine kC [1] 19 (iV r3.1) [.box (colD Col.zero), .box (srcD r3.2), .box (colD r2.1)] rfl Try.call61 rfl rfl (spec_l01Near_ac r2.2.2 17 _ hr3) rfl ?_
  refine AOps_nil ?_
  refine AU_all [0, 5] (by kernel_rfl) rfl (allc ?_ (allc ?_ (fun _ h => nomatch h)))
  ·refine US_of 0 rfl rfl ?_
   refine AOps_q 15 _ rfl rfl rfl (QOp_loadN_ptr _ _ _ _ _ _ _ rfl Try.isAgg27 Try.sizeOf27 rfl rfl (colD_all _) (colD_length _)) ?_
   refine AOps_nil ?_
   exact AU_to (by kernel_rfl) hS2 (Weak_keep 0 hm [2, 3, 4, 15, 16, 17, 19] [0, 1] _ _ rfl rfl rfl)
  refine US_of 5 rfl rfl ?_
  refine AOps_buildSlice 20 _ _ _ [_, _, _, _, _, _, _] (intsD ([3, 3, 4, 4, 5, 6, r3.1])) _ rfl rfl rfl rfl rfl (by decide) Try.underlying34 Try.sizeOf2 (zero_of Try.typeInfo2 rfl) rfl rfl (intsD_one _) ?_
  refine AOps_nil ?_
  refine AU_all [0, 6] (by kernel_rfl) rfl (allc ?_ (allc ?_ (fun _ h => nomatch h)))
  ·refine US_of 0 rfl rfl ?_
   refine AOps_q 15 _ rfl rfl rfl (QOp_loadN_ptr _ _ _ _ _ _ _ rfl Try.isAgg27 Try.sizeOf27 rfl rfl (colD_all _) (colD_length _)) ?_
   refine AOps_nil ?_
   exact AU_to (by kernel_rfl) hS1 (Weak_keep 0 hm [2, 3, 4, 15, 16, 17, 20] [0, 1, 3] _ _ rfl rfl rfl)
  refine US_of 6 rfl rfl ?_
  refine AOps_freezeL [20] 3 0 _ (allc (rfl) (fun _ h => nomatch h)) rfl ?_
  refine kC [1] 21 (iV r4.1) [.box (colD Col.zero), .box (srcD r4.2), .box (colD r2.1), .gone] rfl Try.call60 rfl rfl (spec_l01Pick_ac r3.2 ([3, 3, 4, 4, 5, 6, r3.1]) _ hr4) rfl ?_
  refine AOps_nil ?_
  refine AU_one 0 (by kernel_rfl) rfl rfl ?_
  refine AOps_q 15 _ rfl rfl rfl (QOp_loadN_ptr _ _ _ _ _ _ _ rfl Try.isAgg27 Try.sizeOf27 rfl rfl (colD_all _) (colD_length _)) ?_
  refine AOps_nil ?_
  exact AU_to (by kernel_rfl) hS0 (Weak_keep 0 hm [2, 3, 4, 15, 16, 21] [0] _ _ rfl rfl rfl)
 refine ACode_ret ?_
 cases h
 exact ⟨_, _, fun r a w h => ⟨r, h⟩, _, _, [], _, (.cons (ResV_agg _ _ _ _ _ _ Try.isAgg27 Try.sizeOf27 rfl rfl (colD_take _) (colD_length _)) (.cons (ResV_tmp _ _ rfl) (.cons (ResV_tmp _ _ rfl) .nil))), rfl, rfl, rfl, rfl, rfl⟩

-- loop.example/g01362/impl.FirstCycle
def impl_FirstCycle (k : Nat) (p0 : Col) (p1 : Int) (p2 : Int) : Option (Option (List Int) × Int) :=
 (impl_Colouring_patternCode k p0 p1 (impl_in p2 3 17)).bind fun r2 => (if !decide (r2 = 0) then some (none, r2) else (impl_Colouring_firstCycle k p0 p1 p2).bind fun r4 => (match r4 with | none => some (none, 4) | some l5 => some (some l5, 0)))
set_option maxRecDepth 100000 in
theorem impl_FirstCycle_ac (k : Nat) (p0 : Col) (p1 : Int) (p2 : Int) (r : Option (List Int) × Int) (h : impl_FirstCycle k p0 p1 p2 = some r) : AC Try.prog 17 [.d (.agg (colD p0)), iV p1, iV p2] [] (fun res H' => res = [ownA 0 (r.1.map intsD), iV r.2] ∧ H' = [] ++ ownH (r.1.map intsD)) := by
 refine AC_of_body false Try.func17 rfl Try.ntmps17 (rvs := [.tmp 6, .tmp 7]) rfl rfl (fun G hG => ?_)
 have hm : G.H.length = 0 := by rw [hG]; rfl
 have hz : zeroG G.H = true := by rw [hG]; rfl
 unfold impl_FirstCycle at h
 refine kR ?_
 refine AOps_boxI 3 _ _ (.agg (colD p0)) (colD p0) rfl (colD_one _) rfl rfl rfl rfl rfl ?_
 refine kN 2 rfl ?_
 refine ACode_seq ?_
 refine kR ?_
 refine kM 2 rfl ?_
 refine kC [] 12 (bV (impl_in p2 3 17)) [] rfl Try.call47 rfl rfl (impl_in_ac p2 3 17) rfl ?_
 obtain ⟨r2, hr2, h⟩ := bindO h
 refine kC [] 13 (iV r2) [] rfl Try.call56 rfl rfl (impl_Colouring_patternCode_ac k p0 p1 (impl_in p2 3 17) _ hr2) rfl ?_
 refine kN 1 rfl ?_
 refine kR ?_
 refine kM 1 rfl ?_
 refine AOps_q 15 _ rfl rfl rfl (QOp_neq _ _ _ _ _ _ _ rfl rfl rfl) ?_
 refine AOps_nil ?_
 refine kI h rfl (fun h _ => ?_) (fun h _ => ?_)
 ·refine kR ?_
  refine kN 3 rfl ?_
  refine ACode_ret ?_
  cases h
  exact ⟨_, _, fun r a w h => ⟨r, h⟩, _, _, [], _, (.cons (ResV_tmp _ _ rfl) (.cons (ResV_tmp _ _ rfl) .nil)), rfl, rfl, rfl, rfl, rfl⟩
 refine ACode_skip ?_
 refine kR ?_
 refine kM 2 rfl ?_
 obtain ⟨r4, hr4, h⟩ := bindO h
 refine AOps_call [] 19 _ _ _ _ _ _ _ _ _ _ rfl rfl rfl rfl rfl rfl rfl Try.call50 rfl (nodupB_sound _ rfl) rfl rfl rfl (impl_Colouring_firstCycle_ac k p0 p1 p2 _ hr4) ?_
 revert h
 cases hx6 : r4 with
 | none =>
  intro h
  rintro _ _ ⟨rfl, rfl⟩
  refine ⟨(fun _ h => nomatch h), (allc (trivial) (fun _ h => nomatch h)), AOps_as 19 (v' := .d (.sl (some true) [])) (H' := []) rfl rfl ?_⟩
  refine kN 1 rfl ?_
  refine ACode_seq ?_
  refine kR ?_
  refine kM 1 rfl ?_
  refine AOps_q 21 _ rfl rfl rfl (QOp_isnil _ _ _ _ _ _ _ rfl rfl rfl Try.underlying34) ?_
  refine AOps_nil ?_
  refine ACode_condT rfl ?_
  refine kR ?_
  refine kN 2 rfl ?_
  refine ACode_ret ?_
  cases h
  exact ⟨_, _, fun r a w h => ⟨r, h⟩, _, _, [], _, (.cons (ResV_tmp _ _ rfl) (.cons (ResV_tmp _ _ rfl) .nil)), rfl, rfl, rfl, rfl, rfl⟩
 | some l5 =>
  intro h
  rintro _ _ ⟨rfl, rfl⟩
  refine ⟨(allc (fun _ _ => trivial) (fun _ h => nomatch h)), (allc (trivial) (fun _ h => nomatch h)), AOps_as 19 (v' := .vec 0 0) (H' := [.vec 0 (intsD l5)]) rfl rfl ?_⟩
  refine kN 1 rfl ?_
  refine ACode_seq ?_
  refine kR ?_
  refine kM 1 rfl ?_
  refine AOps_q 21 _ rfl rfl rfl (QOp_vecnil _ _ _ _ _ _ _ _ rfl rfl rfl rfl Try.underlying34) ?_
  refine AOps_nil ?_
  refine ACode_condF rfl ?_
  refine ACode_skip ?_
  refine kR ?_
  refine kN 3 rfl ?_
  refine ACode_ret ?_
  cases h
  exact ⟨_, _, Weak_reset 0 hm hz [6, 7] _ _ rfl rfl, _, _, [0], _, (.cons (ResV_tmp _ _ rfl) (.cons (ResV_tmp _ _ rfl) .nil)), rfl, rfl, rfl, rfl, rfl⟩

-- loop.example/g01362/spec.l04Has
def spec_l04Has_l0 (p2 : Int) (r1 : List Int) : Nat → Int → Option (Sum (Unit) (Bool))
 | 0, _ => none
 | k0 + 1, x2 => (if decide (x2 < (r1.length : Int)) then (if 0 ≤ x2 ∧ x2 < (r1.length : Int) then (if decide ((r1.getD x2.toNat 0) = p2) then some (.inr true) else spec_l04Has_l0 p2 r1 k0 (w64 (x2 + 1))) else none) else some (.inl ()))
def spec_l04Has (k : Nat) (p0 : Col) (p1 : Int) (p2 : Int) : Option (Bool) :=
 (spec_l04Lengths k p0 p1).bind fun r1 => (spec_l04Has_l0 p2 r1 k 0 : Option (Sum (Unit) (Bool))).bind fun os6 => (match os6 with | .inl s6 => some false | .inr rr => some rr)
set_option maxRecDepth 100000 in
theorem spec_l04Has_ac (k : Nat) (p0 : Col) (p1 : Int) (p2 : Int) (r : Bool) (h : spec_l04Has k p0 p1 p2 = some r) : AC Try.prog 41 [.d (.agg (colD p0)), iV p1, iV p2] [] (fun res H' => res = [bV r] ∧ H' = []) := by
 refine AC_of_body true Try.func41 rfl Try.ntmps41 (rvs := [.tmp 6]) rfl rfl (fun G hG => ?_)
 have hm : G.H.length = 0 := by rw [hG]; rfl
 have hz : zeroG G.H = true := by rw [hG]; rfl
 unfold spec_l04Has at h
 refine kR ?_
 refine AOps_boxI 3 _ _ (.agg (colD p0)) (colD p0) rfl (colD_one _) rfl rfl rfl rfl rfl ?_
 refine kN 1 rfl ?_
 refine kR ?_
 refine AOps_q 9 _ rfl rfl rfl (QOp_loadN_pv _ _ _ _ _ _ rfl Try.isAgg27 Try.sizeOf27 rfl (colD_all _) (colD_length _)) ?_
 refine kM 1 rfl ?_
 obtain ⟨r1, hr1, h⟩ := bindO h
 refine kC [] 11 (.vec 0 0) [.vec 0 (intsD r1)] rfl Try.call57 rfl rfl (spec_l04Lengths_ac k p0 p1 _ hr1) rfl ?_
 refine kN 1 rfl ?_
 refine kO (fun s6 => []) (fun s6 => []) h (fun os6 h hks6 => ?_) (fun s6 h => ?_)
 ·refine kR ?_
  refine kN 1 rfl ?_
  refine ACode_block ?_
  refine ACode_loopW (fun k0 E H => ∃ (x2 : Int), E = [(2, iV p2), (7, .vec 0 0), (8, iV x2)] ∧ H = [.vec 0 (intsD r1)] ∧ spec_l04Has_l0 p2 r1 k0 x2 = some os6) k _ _ (Weak_keep 0 hm [2, 7, 8] [0] _ _ rfl rfl rfl) ⟨_, rfl, rfl, h⟩ ?_
  clear h
  rintro k0 E H ⟨x2, rfl, rfl, h⟩
  cases k0 with
  | zero => cases (show (none : Option (Sum (Unit) (Bool))) = some _ from h)
  | succ k0 =>
   rw [spec_l04Has_l0] at h
   refine ACode_seq ?_
   refine kR ?_
   refine kM 2 rfl ?_
   refine AOps_q 14 _ rfl rfl rfl (QOp_len_vec _ _ _ _ _ _ _ _ (intsD_length _) rfl rfl rfl rfl Try.underlying34 rfl rfl) ?_
   refine AOps_q 15 _ rfl rfl rfl (QOp_lss _ _ _ _ _ _ _ rfl rfl rfl) ?_
   refine AOps_nil ?_
   refine kI h rfl (fun h _ => ?_) (fun h _ => ?_)
   ·refine ACode_skip ?_
    refine ACode_seq ?_
    refine ACode_block ?_
    refine kR ?_
    refine kM 2 rfl ?_
    obtain ⟨hc4, h⟩ := guardO h
    refine AOps_q 20 _ rfl rfl rfl (QOp_indexAddr_vec _ _ _ _ _ _ _ _ _ rfl Try.underlying34 Try.sizeOf2 hc4.1 (by rw [intsD_length]; exact hc4.2) rfl rfl rfl) ?_
    refine AOps_q 21 _ rfl rfl rfl (QOp_load_eptr _ _ _ _ _ _ _ rfl Try.isAgg2 rfl rfl (intsD_get _ _ 0 (by omega))) ?_
    refine kM 1 rfl ?_
    refine AOps_q 23 _ rfl rfl rfl (QOp_eql _ _ _ _ _ _ _ rfl rfl rfl) ?_
    refine AOps_nil ?_
    refine kI h rfl (fun h _ => ?_) (fun h _ => ?_)
    ·refine kR ?_
     refine kN 1 rfl ?_
     refine ACode_ret ?_
     cases h
     have h := hks6
     cases h
     exact ⟨_, _, fun r a w h => ⟨r, h⟩, _, _, [], _, (.cons (ResV_tmp _ _ rfl) .nil), rfl, rfl, rfl, rfl, rfl⟩
    refine ACode_skip ?_
    refine (ACode_region ?_)
    refine kM 1 rfl ?_
    refine AOps_q 17 _ rfl rfl rfl (QOp_add _ _ _ _ _ _ _ rfl rfl rfl) ?_
    refine kN 1 rfl ?_
    exact ⟨k0, _, _, Nat.lt_succ_self _, Weak_keep 0 hm [2, 7, 8] [0] _ _ rfl rfl rfl, _, rfl, rfl, h⟩
   refine ACode_exit ?_
   cases h
   exact ⟨_, rfl, Weak_keep 0 hm [] [] _ _ rfl rfl rfl⟩
 refine kR ?_
 refine kN 1 rfl ?_
 refine ACode_ret ?_
 cases h
 exact ⟨_, _, fun r a w h => ⟨r, h⟩, _, _, [], _, (.cons (ResV_tmp _ _ rfl) .nil), rfl, rfl, rfl, rfl, rfl⟩

-- loop.example/g01362/spec.l04Cycle
def spec_l04Cycle_l0 (self : (List Int) → (List Int) → Int → Int → Option (List Int × Bool)) (p0 : List Int) (p1 : List Int) (p2 : Int) (p3 : Int) : Nat → Int → Option (Sum (Unit) (List Int × Bool))
 | 0, _ => none
 | k0 + 1, x11 => (if decide (x11 < (p0.length : Int)) then ((((if 0 ≤ IntKind.u64.wrap x11 then (if decide (bAnd .i64 (bShr .i64 p2 (IntKind.u64.wrap x11)) 1 = 1) then some true else (if 0 ≤ (p1.getD (w64 ((p1.length : Int) - 1)).toNat 0) ∧ (p1.getD (w64 ((p1.length : Int) - 1)).toNat 0) < (p0.length : Int) then (if 0 ≤ IntKind.u64.wrap x11 then some (decide (bAnd .i64 (bShr .i64 (p0.getD (p1.getD (w64 ((p1.length : Int) - 1)).toNat 0).toNat 0) (IntKind.u64.wrap x11)) 1 = 0)) else none) else none)) else none) : Option (Bool)).bind fun s17 => (if s17 then (some (.inl ())).bind fun rr => some (.inr rr) else some (.inl ())) : Option (Sum (Unit) (Sum (Unit) (Sum (Unit) (List Int × Bool))))).bind fun os19 => (match os19 with | .inl s19 => (spec_l01Own p1).bind fun r20 => (if r20.length + ([x11]).length ≤ 1099511627776 then (if 0 ≤ IntKind.u64.wrap x11 then (self p0 (r20 ++ ([x11])) (bOr .i64 p2 (bShl .i64 1 (IntKind.u64.wrap x11))) p3).bind fun r23 => (if r23.2 then (some (.inr (r23.1, true))).bind fun rr => some (.inr rr) else some (.inl ())) else none) else none) | .inr rr => some rr) : Option (Sum (Unit) (Sum (Unit) (List Int × Bool)))).bind fun os25 => (match os25 with | .inl s25 => spec_l04Cycle_l0 self p0 p1 p2 p3 k0 (w64 (x11 + 1)) | .inr rr => some rr) else some (.inl ()))
def spec_l04Cycle_body (self : (List Int) → (List Int) → Int → Int → Option (List Int × Bool)) (k : Nat) (p0 : List Int) (p1 : List Int) (p2 : Int) (p3 : Int) : Option (List Int × Bool) :=
 (if 0 ≤ (0 : Int) ∧ (0 : Int) < (p1.length : Int) then (if 0 ≤ w64 ((p1.length : Int) - 1) ∧ w64 ((p1.length : Int) - 1) < (p1.length : Int) then (if decide ((p1.length : Int) = p3) then ((if 0 ≤ (p1.getD (w64 ((p1.length : Int) - 1)).toNat 0) ∧ (p1.getD (w64 ((p1.length : Int) - 1)).toNat 0) < (p0.length : Int) then (if 0 ≤ IntKind.u64.wrap (p1.getD (0 : Int).toNat 0) then (if decide (bAnd .i64 (bShr .i64 (p0.getD (p1.getD (w64 ((p1.length : Int) - 1)).toNat 0).toNat 0) (IntKind.u64.wrap (p1.getD (0 : Int).toNat 0))) 1 = 1) then (if 0 ≤ (1 : Int) ∧ (1 : Int) < (p1.length : Int) then some (decide ((p1.getD (1 : Int).toNat 0) < (p1.getD (w64 ((p1.length : Int) - 1)).toNat 0))) else none) else some false) else none) else none) : Option (Bool)).bind fun s8 => some (p1, s8) else (if 0 ≤ (p1.getD (0 : Int).toNat 0) ∧ (p1.getD (0 : Int).toNat 0) < (p0.length : Int) then (if decide (bAndNot .i64 (p0.getD (p1.getD (0 : Int).toNat 0).toNat 0) p2 = 0) then some ([], false) else (spec_l04Cycle_l0 self p0 p1 p2 p3 k (w64 ((p1.getD (0 : Int).toNat 0) + 1)) : Option (Sum (Unit) (List Int × Bool))).bind fun os26 => (match os26 with | .inl s26 => some ([], false) | .inr rr => some rr)) else none)) else none) else none)
def spec_l04Cycle : Nat → (List Int) → (List Int) → Int → Int → Option (List Int × Bool)
 | 0, _, _, _, _ => none
 | k + 1, p0, p1, p2, p3 => spec_l04Cycle_body (spec_l04Cycle k) k p0 p1 p2 p3
set_option maxRecDepth 100000 in
theorem spec_l04Cycle_ac (k : Nat) (p0 : List Int) (p1 : List Int) (p2 : Int) (p3 : Int) (r : List Int × Bool) (h : spec_l04Cycle k p0 p1 p2 p3 = some r) : AC Try.prog 94 [.d (.sl none (intsD p0)), .d (.sl none (intsD p1)), iV p2, iV p3] [] (fun res H' => res = [.d (.sl none (intsD r.1)), bV r.2] ∧ H' = []) := by
 induction k generalizing p0 p1 p2 p3 r with
 | zero => simp [spec_l04Cycle] at h
 | succ k ih =>
  rw [spec_l04Cycle] at h
  obtain ⟨self, hself, hk⟩ : ∃ self : (List Int) → (List Int) → Int → Int → Option (List Int × Bool), (∀ (p0 : List Int) (p1 : List Int) (p2 : Int) (p3 : Int) (r : List Int × Bool), self p0 p1 p2 p3 = some r → AC Try.prog 94 [.d (.sl none (intsD p0)), .d (.sl none (intsD p1)), iV p2, iV p3] [] (fun res H' => res = [.d (.sl none (intsD r.1)), bV r.2] ∧ H' = [])) ∧ spec_l04Cycle k = self := ⟨spec_l04Cycle k, fun p0 p1 p2 p3 r h => ih p0 p1 p2 p3 r h, rfl⟩
  rw [hk] at h
  clear ih hk
  refine AC_of_body true Try.func94 rfl Try.ntmps94 (rvs := [.tmp 8, .tmp 9]) rfl rfl (fun G hG => ?_)
  have hm : G.H.length = 0 := by rw [hG]; rfl
  have hz : zeroG G.H = true := by rw [hG]; rfl
  unfold spec_l04Cycle_body at h
  refine kR ?_
  refine kN 2 rfl ?_
  refine ACode_seq (ACode_quiet mixed (by kernel_rfl) ?_)
  refine kQ 1 rfl ?_
  obtain ⟨hc1, h⟩ := guardO h
  refine AQ_q 16 _ rfl rfl rfl (QOp_indexAddr_sl _ _ _ _ _ _ _ _ rfl Try.underlying34 Try.sizeOf2 hc1.1 (by rw [intsD_length]; exact hc1.2) rfl rfl) ?_
  refine AQ_q 17 _ rfl rfl rfl (QOp_load_pv _ _ _ _ _ rfl Try.isAgg2 rfl (intsD_get _ _ 0 (by omega))) ?_
  refine kQ 2 rfl ?_
  refine AQ_q 20 _ rfl rfl rfl (QOp_len_sl _ _ _ _ _ _ _ (intsD_length _) rfl rfl rfl rfl Try.underlying34 rfl) ?_
  refine AQ_q 21 _ rfl rfl rfl (QOp_sub _ _ _ _ _ _ _ rfl rfl rfl) ?_
  obtain ⟨hc2, h⟩ := guardO h
  refine AQ_q 22 _ rfl rfl rfl (QOp_indexAddr_sl _ _ _ _ _ _ _ _ rfl Try.underlying34 Try.sizeOf2 hc2.1 (by rw [intsD_length]; exact hc2.2) rfl rfl) ?_
  refine AQ_q 23 _ rfl rfl rfl (QOp_load_pv _ _ _ _ _ rfl Try.isAgg2 rfl (intsD_get _ _ 0 (by omega))) ?_
  refine kQ 2 rfl ?_
  refine AQ_nil ?_
  refine ACode_seq ?_
  refine kR ?_
  refine kM 1 rfl ?_
  refine AOps_q 25 _ rfl rfl rfl (QOp_len_sl _ _ _ _ _ _ _ (intsD_length _) rfl rfl rfl rfl Try.underlying34 rfl) ?_
  refine kM 1 rfl ?_
  refine AOps_q 27 _ rfl rfl rfl (QOp_eql _ _ _ _ _ _ _ rfl rfl rfl) ?_
  refine AOps_nil ?_
  refine kI h rfl (fun h _ => ?_) (fun h _ => ?_)
  ·refine kB (fun s8 => [(8, .d (.sl none (intsD p1))), (9, bV s8)]) (fun s8 => []) h (fun s8 h => ?_) (fun s8 h => ?_)
   ·refine (ACode_quiet mixed (by kernel_rfl) ?_)
    refine kQ 3 rfl ?_
    obtain ⟨hc4, h⟩ := guardO h
    refine AQ_q 31 _ rfl rfl rfl (QOp_indexAddr_sl _ _ _ _ _ _ _ _ rfl Try.underlying34 Try.sizeOf2 hc4.1 (by rw [intsD_length]; exact hc4.2) rfl rfl) ?_
    refine AQ_q 32 _ rfl rfl rfl (QOp_load_pv _ _ _ _ _ rfl Try.isAgg2 rfl (intsD_get _ _ 0 (by omega))) ?_
    refine kQ 1 rfl ?_
    refine AQ_q 34 _ rfl rfl rfl (QOp_conv _ _ _ _ _ _ rfl rfl Try.underlying93 rfl) ?_
    obtain ⟨hc5, h⟩ := guardO h
    refine AQ_q 35 _ rfl rfl rfl (QOp_shr _ _ _ _ _ _ _ _ hc5 rfl rfl rfl) ?_
    refine AQ_q 36 _ rfl rfl rfl (QOp_and _ _ _ _ _ _ _ rfl rfl rfl) ?_
    refine AQ_q 37 _ rfl rfl rfl (QOp_eql _ _ _ _ _ _ _ rfl rfl rfl) ?_
    refine kQ 1 rfl ?_
    refine AQ_case 38 _ rfl (fun hb6 => ?_) (fun hb6 => ?_)
    ·have h := iteT hb6 h
     refine kQ 1 rfl ?_
     obtain ⟨hc7, h⟩ := guardO h
     refine AQ_q 40 _ rfl rfl rfl (QOp_indexAddr_sl _ _ _ _ _ _ _ _ rfl Try.underlying34 Try.sizeOf2 hc7.1 (by rw [intsD_length]; exact hc7.2) rfl rfl) ?_
     refine AQ_q 41 _ rfl rfl rfl (QOp_load_pv _ _ _ _ _ rfl Try.isAgg2 rfl (intsD_get _ _ 0 (by omega))) ?_
     refine kQ 1 rfl ?_
     refine AQ_q 43 _ rfl rfl rfl (QOp_lss _ _ _ _ _ _ _ rfl rfl rfl) ?_
     refine kQ 3 rfl ?_
     refine AQ_nil ?_
     cases h
     exact Weak_keep 0 hm [8, 9] [] _ _ rfl rfl rfl
    have h := iteF hb6 h
    refine AQ_skip 39 rfl rfl rfl ?_
    refine AQ_skip 40 rfl rfl rfl ?_
    refine AQ_skip 41 rfl rfl rfl ?_
    refine AQ_skip 42 rfl rfl rfl ?_
    refine AQ_skip 43 rfl rfl rfl ?_
    refine kQ 3 rfl ?_
    refine AQ_nil ?_
    cases h
    exact Weak_keep 0 hm [8, 9] [] _ _ rfl rfl rfl
   refine ACode_ret ?_
   cases h
   exact ⟨_, _, fun r a w h => ⟨r, h⟩, _, _, [], _, (.cons (ResV_tmp _ _ rfl) (.cons (ResV_tmp _ _ rfl) .nil)), rfl, rfl, rfl, rfl, rfl⟩
  refine ACode_skip ?_
  refine ACode_seq ?_
  refine kR ?_
  refine kM 2 rfl ?_
  obtain ⟨hc9, h⟩ := guardO h
  refine AOps_q 47 _ rfl rfl rfl (QOp_indexAddr_sl _ _ _ _ _ _ _ _ rfl Try.underlying34 Try.sizeOf2 hc9.1 (by rw [intsD_length]; exact hc9.2) rfl rfl) ?_
  refine AOps_q 48 _ rfl rfl rfl (QOp_load_pv _ _ _ _ _ rfl Try.isAgg2 rfl (intsD_get _ _ 0 (by omega))) ?_
  refine kM 1 rfl ?_
  refine AOps_q 50 _ rfl rfl rfl (QOp_andNot _ _ _ _ _ _ _ rfl rfl rfl) ?_
  refine AOps_q 51 _ rfl rfl rfl (QOp_eql _ _ _ _ _ _ _ rfl rfl rfl) ?_
  refine AOps_nil ?_
  refine kI h rfl (fun h _ => ?_) (fun h _ => ?_)
  ·refine kR ?_
   refine kN 2 rfl ?_
   refine ACode_ret ?_
   cases h
   exact ⟨_, _, fun r a w h => ⟨r, h⟩, _, _, [], _, (.cons (ResV_tmp _ _ rfl) (.cons (ResV_tmp _ _ rfl) .nil)), rfl, rfl, rfl, rfl, rfl⟩
  refine ACode_skip ?_
  refine kO (fun s26 => []) (fun s26 => []) h (fun os26 h hks26 => ?_) (fun s26 h => ?_)
  ·refine kR ?_
   refine kM 1 rfl ?_
   refine AOps_q 53 _ rfl rfl rfl (QOp_add _ _ _ _ _ _ _ rfl rfl rfl) ?_
   refine kN 1 rfl ?_
   refine ACode_block ?_
   refine ACode_loopW (fun k0 E H => ∃ (x11 : Int), E = [(0, .d (.sl none (intsD p0))), (1, .d (.sl none (intsD p1))), (2, iV p2), (3, iV p3), (11, iV (p1.getD (w64 ((p1.length : Int) - 1)).toNat 0)), (12, iV x11)] ∧ H = [] ∧ spec_l04Cycle_l0 self p0 p1 p2 p3 k0 x11 = some os26) k _ _ (Weak_keep 0 hm [0, 1, 2, 3, 11, 12] [] _ _ rfl rfl rfl) ⟨_, rfl, rfl, h⟩ ?_
   clear h
   rintro k0 E H ⟨x11, rfl, rfl, h⟩
   cases k0 with
   | zero => cases (show (none : Option (Sum (Unit) (List Int × Bool))) = some _ from h)
   | succ k0 =>
    rw [spec_l04Cycle_l0] at h
    refine ACode_seq ?_
    refine kR ?_
    refine kM 2 rfl ?_
    refine AOps_q 56 _ rfl rfl rfl (QOp_len_sl _ _ _ _ _ _ _ (intsD_length _) rfl rfl rfl rfl Try.underlying34 rfl) ?_
    refine AOps_q 57 _ rfl rfl rfl (QOp_lss _ _ _ _ _ _ _ rfl rfl rfl) ?_
    refine AOps_nil ?_
    refine kI h rfl (fun h _ => ?_) (fun h _ => ?_)
    ·refine ACode_skip ?_
     refine kO (fun s25 => [(0, .d (.sl none (intsD p0))), (1, .d (.sl none (intsD p1))), (2, iV p2), (3, iV p3), (11, iV (p1.getD (w64 ((p1.length : Int) - 1)).toNat 0)), (12, iV x11)]) (fun s25 => []) h (fun os25 h hks25 => ?_) (fun s25 h => ?_)
     ·refine ACode_block ?_
      refine kO (fun s19 => [(0, .d (.sl none (intsD p0))), (1, .d (.sl none (intsD p1))), (2, iV p2), (3, iV p3), (11, iV (p1.getD (w64 ((p1.length : Int) - 1)).toNat 0)), (12, iV x11)]) (fun s19 => []) h (fun os19 h hks19 => ?_) (fun s19 h => ?_)
      ·refine kB (fun s17 => [(0, .d (.sl none (intsD p0))), (1, .d (.sl none (intsD p1))), (2, iV p2), (3, iV p3), (11, iV (p1.getD (w64 ((p1.length : Int) - 1)).toNat 0)), (12, iV x11), (76, bV s17)]) (fun s17 => []) h (fun s17 h => ?_) (fun s17 h => ?_)
       ·refine (ACode_region ?_)
        refine kM 2 rfl ?_
        refine AOps_q 62 _ rfl rfl rfl (QOp_conv _ _ _ _ _ _ rfl rfl Try.underlying93 rfl) ?_
        obtain ⟨hc13, h⟩ := guardO h
        refine AOps_q 63 _ rfl rfl rfl (QOp_shr _ _ _ _ _ _ _ _ hc13 rfl rfl rfl) ?_
        refine AOps_q 64 _ rfl rfl rfl (QOp_and _ _ _ _ _ _ _ rfl rfl rfl) ?_
        refine AOps_q 65 _ rfl rfl rfl (QOp_eql _ _ _ _ _ _ _ rfl rfl rfl) ?_
        refine kM 1 rfl ?_
        refine AOps_case 66 _ rfl (fun hb14 => ?_) (fun hb14 => ?_)
        ·have h := iteT hb14 h
         refine AOps_skip 67 rfl rfl rfl ?_
         refine AOps_skip 68 rfl rfl rfl ?_
         refine AOps_skip 69 rfl rfl rfl ?_
         refine AOps_skip 70 rfl rfl rfl ?_
         refine AOps_skip 71 rfl rfl rfl ?_
         refine AOps_skip 72 rfl rfl rfl ?_
         refine AOps_skip 73 rfl rfl rfl ?_
         refine AOps_skip 74 rfl rfl rfl ?_
         refine AOps_skip 75 rfl rfl rfl ?_
         refine kN 1 rfl ?_
         cases h
         exact Weak_keep 0 hm [0, 1, 2, 3, 11, 12, 76] [] _ _ rfl rfl rfl
        have h := iteF hb14 h
        refine kM 2 rfl ?_
        obtain ⟨hc15, h⟩ := guardO h
        refine AOps_q 69 _ rfl rfl rfl (QOp_indexAddr_sl _ _ _ _ _ _ _ _ rfl Try.underlying34 Try.sizeOf2 hc15.1 (by rw [intsD_length]; exact hc15.2) rfl rfl) ?_
        refine AOps_q 70 _ rfl rfl rfl (QOp_load_pv _ _ _ _ _ rfl Try.isAgg2 rfl (intsD_get _ _ 0 (by omega))) ?_
        refine kM 1 rfl ?_
        refine AOps_q 72 _ rfl rfl rfl (QOp_conv _ _ _ _ _ _ rfl rfl Try.underlying93 rfl) ?_
        obtain ⟨hc16, h⟩ := guardO h
        refine AOps_q 73 _ rfl rfl rfl (QOp_shr _ _ _ _ _ _ _ _ hc16 rfl rfl rfl) ?_
        refine AOps_q 74 _ rfl rfl rfl (QOp_and _ _ _ _ _ _ _ rfl rfl rfl) ?_
        refine AOps_q 75 _ rfl rfl rfl (QOp_eql _ _ _ _ _ _ _ rfl rfl rfl) ?_
        refine kN 1 rfl ?_
        cases h
        exact Weak_keep 0 hm [0, 1, 2, 3, 11, 12, 76] [] _ _ rfl rfl rfl
       refine kI h rfl (fun h _ => ?_) (fun h _ => ?_)
       ·refine ACode_exit ?_
        obtain ⟨rr, hz27, h2⟩ := bindO h
        obtain rfl := Option.some.inj h2
        obtain rfl := Option.some.inj (show some rr = some _ from hks19)
        have h := hz27
        cases h
        exact ⟨_, rfl, Weak_keep 0 hm [0, 1, 2, 3, 11, 12] [] _ _ rfl rfl rfl⟩
       refine ACode_skip ?_
       cases h
       exact ⟨_, rfl, Weak_keep 0 hm [0, 1, 2, 3, 11, 12] [] _ _ rfl rfl rfl⟩
      refine kR ?_
      refine kM 2 rfl ?_
      obtain ⟨r20, hr20, h⟩ := bindO h
      refine kC [] 80 (.vec 0 0) [.vec 0 (intsD r20)] rfl Try.call102 rfl rfl (spec_l01Own_ac p1 _ hr20) rfl ?_
      refine kM 1 rfl ?_
      refine AOps_buildSlice 82 _ _ _ [_] (intsD ([x11])) _ rfl rfl rfl rfl rfl (by decide) Try.underlying34 Try.sizeOf2 (zero_of Try.typeInfo2 rfl) rfl rfl (intsD_one _) ?_
      obtain ⟨hc21, h⟩ := guardO h
      refine AOps_append 83 _ _ _ _ _ _ _ _ _ _ _ _ rfl rfl rfl rfl rfl rfl rfl Try.underlying34 Try.type2 rfl rfl rfl (by decide) rfl rfl rfl rfl (intsD_one _) (by rw [intsD_length, intsD_length]; exact hc21) ?_
      rw [intsD_app]
      refine kM 2 rfl ?_
      refine AOps_q 86 _ rfl rfl rfl (QOp_conv _ _ _ _ _ _ rfl rfl Try.underlying93 rfl) ?_
      obtain ⟨hc22, h⟩ := guardO h
      refine AOps_q 87 _ rfl rfl rfl (QOp_shl _ _ _ _ _ _ _ _ hc22 rfl rfl rfl) ?_
      refine AOps_q 88 _ rfl rfl rfl (QOp_or _ _ _ _ _ _ _ rfl rfl rfl) ?_
      refine kM 1 rfl ?_
      refine AOps_freezeL [83] 0 1 _ (allc (rfl) (fun _ h => nomatch h)) rfl ?_
      obtain ⟨r23, hr23, h⟩ := bindO h
      refine kC [] 90 (.tup [.d (.sl none (intsD r23.1)), bV r23.2]) [.gone, .vec 0 (intsD ([x11]))] rfl Try.call94 rfl rfl (hself p0 (r20 ++ ([x11])) (bOr .i64 p2 (bShl .i64 1 (IntKind.u64.wrap x11))) p3 _ hr23) rfl ?_
      refine kN 5 rfl ?_
      refine kR ?_
      refine kN 1 rfl ?_
      refine kI h rfl (fun h _ => ?_) (fun h _ => ?_)
      ·refine kR ?_
       refine kN 3 rfl ?_
       refine ACode_ret ?_
       obtain ⟨rr, hz28, h2⟩ := bindO h
       obtain rfl := Option.some.inj h2
       obtain rfl := Option.some.inj (show some rr = some _ from hks25)
       have h := hz28
       cases h
       have h := hks26
       cases h
       exact ⟨_, _, fun r a w h => ⟨r, h⟩, _, _, [], _, (.cons (ResV_tmp _ _ rfl) (.cons (ResV_tmp _ _ rfl) .nil)), rfl, rfl, rfl, rfl, rfl⟩
      refine ACode_skip ?_
      cases h
      exact ⟨_, rfl, Weak_keep 0 hm [0, 1, 2, 3, 11, 12] [] _ _ rfl rfl rfl⟩
     refine (ACode_region ?_)
     refine kM 1 rfl ?_
     refine AOps_q 59 _ rfl rfl rfl (QOp_add _ _ _ _ _ _ _ rfl rfl rfl) ?_
     refine kN 1 rfl ?_
     exact ⟨k0, _, _, Nat.lt_succ_self _, Weak_keep 0 hm [0, 1, 2, 3, 11, 12] [] _ _ rfl rfl rfl, _, rfl, rfl, h⟩
    refine ACode_exit ?_
    cases h
    exact ⟨_, rfl, Weak_keep 0 hm [] [] _ _ rfl rfl rfl⟩
  refine kR ?_
  refine kN 2 rfl ?_
  refine ACode_ret ?_
  cases h
  exact ⟨_, _, fun r a w h => ⟨r, h⟩, _, _, [], _, (.cons (ResV_tmp _ _ rfl) (.cons (ResV_tmp _ _ rfl) .nil)), rfl, rfl, rfl, rfl, rfl⟩

-- loop.example/g01362/spec.l04First
def spec_l04First_l0 (k : Nat) (p0 : Col) (p2 : Int) (r1 : List Int) : Nat → Int → Option (Sum (Unit) (List Int × Bool))
 | 0, _ => none
 | k0 + 1, x4 => (if decide (x4 < p0.p) then (if 0 ≤ IntKind.u64.wrap x4 then (spec_l04Cycle k r1 ([x4]) (bShl .i64 1 (IntKind.u64.wrap x4)) p2).bind fun r7 => (if r7.2 then some (.inr (r7.1, true)) else spec_l04First_l0 k p0 p2 r1 k0 (w64 (x4 + 1))) else none) else some (.inl ()))
def spec_l04First (k : Nat) (p0 : Col) (p1 : Int) (p2 : Int) : Option (List Int × Bool) :=
 (spec_l02Rows k p0 p1).bind fun r1 => (spec_l04Has k p0 p1 p2).bind fun r2 => (if !r2 then some ([], false) else (spec_l04First_l0 k p0 p2 r1 k 0 : Option (Sum (Unit) (List Int × Bool))).bind fun os9 => (match os9 with | .inl s9 => some ([], false) | .inr rr => some rr))
set_option maxRecDepth 100000 in
theorem spec_l04First_ac (k : Nat) (p0 : Col) (p1 : Int) (p2 : Int) (r : List Int × Bool) (h : spec_l04First k p0 p1 p2 = some r) : AC Try.prog 62 [.d (.agg (colD p0)), iV p1, iV p2] [] (fun res H' => res = [.d (.sl none (intsD r.1)), bV r.2] ∧ H' = []) := by
 refine AC_of_body true Try.func62 rfl Try.ntmps62 (rvs := [.tmp 6, .tmp 7]) rfl rfl (fun G hG => ?_)
 have hm : G.H.length = 0 := by rw [hG]; rfl
 have hz : zeroG G.H = true := by rw [hG]; rfl
 unfold spec_l04First at h
 refine kR ?_
 refine AOps_boxI 3 _ _ (.agg (colD p0)) (colD p0) rfl (colD_one _) rfl rfl rfl rfl rfl ?_
 refine kN 2 rfl ?_
 refine kR ?_
 refine AOps_q 12 _ rfl rfl rfl (QOp_loadN_pv _ _ _ _ _ _ rfl Try.isAgg27 Try.sizeOf27 rfl (colD_all _) (colD_length _)) ?_
 refine kM 1 rfl ?_
 obtain ⟨r1, hr1, h⟩ := bindO h
 refine kC [] 14 (.vec 0 0) [.vec 0 (intsD r1)] rfl Try.call80 rfl rfl (spec_l02Rows_ac k p0 p1 _ hr1) rfl ?_
 refine kN 1 rfl ?_
 refine ACode_seq ?_
 refine kR ?_
 refine AOps_q 15 _ rfl rfl rfl (QOp_loadN_pv _ _ _ _ _ _ rfl Try.isAgg27 Try.sizeOf27 rfl (colD_all _) (colD_length _)) ?_
 refine kM 2 rfl ?_
 obtain ⟨r2, hr2, h⟩ := bindO h
 refine kC [] 18 (bV r2) [.vec 0 (intsD r1)] rfl Try.call41 rfl rfl (spec_l04Has_ac k p0 p1 p2 _ hr2) rfl ?_
 refine AOps_q 19 _ rfl rfl rfl (QOp_not _ _ _ rfl rfl) ?_
 refine AOps_nil ?_
 refine kI h rfl (fun h _ => ?_) (fun h _ => ?_)
 ·refine kR ?_
  refine kN 2 rfl ?_
  refine ACode_ret ?_
  cases h
  exact ⟨_, _, fun r a w h => ⟨r, h⟩, _, _, [], _, (.cons (ResV_tmp _ _ rfl) (.cons (ResV_tmp _ _ rfl) .nil)), rfl, rfl, rfl, rfl, rfl⟩
 refine ACode_skip ?_
 refine kO (fun s9 => []) (fun s9 => []) h (fun os9 h hks9 => ?_) (fun s9 h => ?_)
 ·refine kR ?_
  refine kN 1 rfl ?_
  refine ACode_block ?_
  refine ACode_loopW (fun k0 E H => ∃ (x4 : Int), E = [(2, iV p2), (3, .d (.pv (colD p0) 0)), (8, .d (.sl none (intsD r1))), (9, iV x4)] ∧ H = [] ∧ spec_l04First_l0 k p0 p2 r1 k0 x4 = some os9) k _ _ (Weak_trans (Weak_frz [8, 14] [] 0 0 _ (allc (rfl) (allc (rfl) (fun _ h => nomatch h))) (fun _ h => nomatch h) rfl) (Weak_keep 0 hm [2, 3, 8, 9] [] _ _ rfl rfl rfl)) ⟨_, rfl, rfl, h⟩ ?_
  clear h
  rintro k0 E H ⟨x4, rfl, rfl, h⟩
  cases k0 with
  | zero => cases (show (none : Option (Sum (Unit) (List Int × Bool))) = some _ from h)
  | succ k0 =>
   rw [spec_l04First_l0] at h
   refine ACode_seq ?_
   refine kR ?_
   refine kM 1 rfl ?_
   refine AOps_q 21 _ rfl rfl rfl (QOp_fieldAddr_pv _ _ _ _ _ 0 _ _ rfl Try.underlying27 rfl _ Try.sizeOf2 rfl rfl) ?_
   refine AOps_q 22 _ rfl rfl rfl (QOp_load_pv _ _ _ _ _ rfl Try.isAgg2 rfl rfl) ?_
   refine AOps_q 23 _ rfl rfl rfl (QOp_lss _ _ _ _ _ _ _ rfl rfl rfl) ?_
   refine AOps_nil ?_
   refine kI h rfl (fun h _ => ?_) (fun h _ => ?_)
   ·refine ACode_skip ?_
    refine ACode_seq ?_
    refine ACode_block ?_
    refine kR ?_
    refine kM 2 rfl ?_
    refine AOps_buildSlice 29 _ _ _ [_] (intsD ([x4])) _ rfl rfl rfl rfl rfl (by decide) Try.underlying34 Try.sizeOf2 (zero_of Try.typeInfo2 rfl) rfl rfl (intsD_one _) ?_
    refine kM 1 rfl ?_
    refine AOps_q 31 _ rfl rfl rfl (QOp_conv _ _ _ _ _ _ rfl rfl Try.underlying93 rfl) ?_
    obtain ⟨hc6, h⟩ := guardO h
    refine AOps_q 32 _ rfl rfl rfl (QOp_shl _ _ _ _ _ _ _ _ hc6 rfl rfl rfl) ?_
    refine kM 1 rfl ?_
    refine AOps_freezeL [29] 0 0 _ (allc (rfl) (fun _ h => nomatch h)) rfl ?_
    obtain ⟨r7, hr7, h⟩ := bindO h
    refine kC [] 34 (.tup [.d (.sl none (intsD r7.1)), bV r7.2]) [.gone] rfl Try.call94 rfl rfl (spec_l04Cycle_ac k r1 ([x4]) (bShl .i64 1 (IntKind.u64.wrap x4)) p2 _ hr7) rfl ?_
    refine kN 5 rfl ?_
    refine kR ?_
    refine kN 1 rfl ?_
    refine kI h rfl (fun h _ => ?_) (fun h _ => ?_)
    ·refine kR ?_
     refine kN 3 rfl ?_
     refine ACode_ret ?_
     cases h
     have h := hks9
     cases h
     exact ⟨_, _, fun r a w h => ⟨r, h⟩, _, _, [], _, (.cons (ResV_tmp _ _ rfl) (.cons (ResV_tmp _ _ rfl) .nil)), rfl, rfl, rfl, rfl, rfl⟩
    refine ACode_skip ?_
    refine (ACode_region ?_)
    refine kM 1 rfl ?_
    refine AOps_q 25 _ rfl rfl rfl (QOp_add _ _ _ _ _ _ _ rfl rfl rfl) ?_
    refine kN 1 rfl ?_
    exact ⟨k0, _, _, Nat.lt_succ_self _, Weak_keep 0 hm [2, 3, 8, 9] [] _ _ rfl rfl rfl, _, rfl, rfl, h⟩
   refine ACode_exit ?_
   cases h
   exact ⟨_, rfl, Weak_keep 0 hm [] [] _ _ rfl rfl rfl⟩
 refine kR ?_
 refine kN 2 rfl ?_
 refine ACode_ret ?_
 cases h
 exact ⟨_, _, fun r a w h => ⟨r, h⟩, _, _, [], _, (.cons (ResV_tmp _ _ rfl) (.cons (ResV_tmp _ _ rfl) .nil)), rfl, rfl, rfl, rfl, rfl⟩

-- loop.example/g01362/spec.FirstCycle
def spec_FirstCycle (k : Nat) (p0 : Col) (p1 : Int) (p2 : Int) : Option (List Int × Int) :=
 (spec_l01Given k p0 p1 ([])).bind fun r1 => letO (letO (if decide (r1 = 0) then !(spec_l01In p2 3 17) else false) fun (s4 : Bool) => (if s4 then 2 else r1)) fun (s6 : Int) => ((if decide (s6 = 0) then (spec_l04Code k p0 p1 true).bind fun r8 => some r8 else some s6) : Option (Int)).bind fun s9 => (if !decide (s9 = 0) then some ([], s9) else (spec_l04First k p0 p1 p2).bind fun r11 => (if !r11.2 then some ([], 4) else some (r11.1, 0)))
set_option maxRecDepth 100000 in
theorem spec_FirstCycle_ac (k : Nat) (p0 : Col) (p1 : Int) (p2 : Int) (r : List Int × Int) (h : spec_FirstCycle k p0 p1 p2 = some r) : AC Try.prog 18 [.d (.agg (colD p0)), iV p1, iV p2] [] (fun res H' => res = [.d (.sl none (intsD r.1)), iV r.2] ∧ H' = []) := by
 refine AC_of_body true Try.func18 rfl Try.ntmps18 (rvs := [.tmp 6, .tmp 7]) rfl rfl (fun G hG => ?_)
 have hm : G.H.length = 0 := by rw [hG]; rfl
 have hz : zeroG G.H = true := by rw [hG]; rfl
 unfold spec_FirstCycle at h
 refine kR ?_
 refine AOps_boxI 3 _ _ (.agg (colD p0)) (colD p0) rfl (colD_one _) rfl rfl rfl rfl rfl ?_
 refine kN 2 rfl ?_
 refine kR ?_
 refine AOps_q 11 _ rfl rfl rfl (QOp_loadN_pv _ _ _ _ _ _ rfl Try.isAgg27 Try.sizeOf27 rfl (colD_all _) (colD_length _)) ?_
 refine kM 1 rfl ?_
 obtain ⟨r1, hr1, h⟩ := bindO h
 refine kC [] 13 (iV r1) [] rfl Try.call37 rfl rfl (spec_l01Given_ac k p0 p1 ([]) _ hr1) rfl ?_
 refine kN 1 rfl ?_
 refine kL (fun s6 => [(1, iV p1), (2, iV p2), (3, .d (.pv (colD p0) 0)), (8, iV s6)]) (fun s6 => []) h (fun s6 h => ?_) (fun s6 h => ?_)
 ·refine kL (fun s4 => [(1, iV p1), (2, iV p2), (3, .d (.pv (colD p0) 0)), (8, iV r1), (20, bV s4)]) (fun s4 => []) h (fun s4 h => ?_) (fun s4 h => ?_)
  ·refine (ACode_region ?_)
   refine kM 1 rfl ?_
   refine AOps_q 15 _ rfl rfl rfl (QOp_eql _ _ _ _ _ _ _ rfl rfl rfl) ?_
   refine kM 1 rfl ?_
   refine AOps_case 16 _ rfl (fun hb2 => ?_) (fun hb2 => ?_)
   ·have h := iteT hb2 h
    refine kM 1 rfl ?_
    refine kC [] 18 (bV (spec_l01In p2 3 17)) [] rfl Try.call38 rfl rfl (spec_l01In_ac p2 3 17) rfl ?_
    refine AOps_q 19 _ rfl rfl rfl (QOp_not _ _ _ rfl rfl) ?_
    refine kN 1 rfl ?_
    cases h
    exact Weak_keep 0 hm [1, 2, 3, 8, 20] [] _ _ rfl rfl rfl
   have h := iteF hb2 h
   refine AOps_skip 17 rfl rfl rfl ?_
   refine AOps_skip 18 rfl rfl rfl ?_
   refine AOps_skip 19 rfl rfl rfl ?_
   refine kN 1 rfl ?_
   cases h
   exact Weak_keep 0 hm [1, 2, 3, 8, 20] [] _ _ rfl rfl rfl
  refine kI h rfl (fun h _ => ?_) (fun h _ => ?_)
  ·refine (ACode_region ?_)
   refine kN 1 rfl ?_
   cases h
   exact Weak_keep 0 hm [1, 2, 3, 8] [] _ _ rfl rfl rfl
  refine ACode_skip ?_
  cases h
  exact Weak_keep 0 hm [1, 2, 3, 8] [] _ _ rfl rfl rfl
 refine kB (fun s9 => [(1, iV p1), (2, iV p2), (3, .d (.pv (colD p0) 0)), (8, iV s9)]) (fun s9 => []) h (fun s9 h => ?_) (fun s9 h => ?_)
 ·refine kR ?_
  refine kM 1 rfl ?_
  refine AOps_q 22 _ rfl rfl rfl (QOp_eql _ _ _ _ _ _ _ rfl rfl rfl) ?_
  refine AOps_nil ?_
  refine kI h rfl (fun h _ => ?_) (fun h _ => ?_)
  ·refine (ACode_region ?_)
   refine AOps_q 23 _ rfl rfl rfl (QOp_loadN_pv _ _ _ _ _ _ rfl Try.isAgg27 Try.sizeOf27 rfl (colD_all _) (colD_length _)) ?_
   refine kM 1 rfl ?_
   obtain ⟨r8, hr8, h⟩ := bindO h
   refine kC [] 25 (iV r8) [] rfl Try.call39 rfl rfl (spec_l04Code_ac k p0 p1 true _ hr8) rfl ?_
   refine kN 1 rfl ?_
   cases h
   exact Weak_keep 0 hm [1, 2, 3, 8] [] _ _ rfl rfl rfl
  refine ACode_skip ?_
  cases h
  exact Weak_keep 0 hm [1, 2, 3, 8] [] _ _ rfl rfl rfl
 refine ACode_seq ?_
 refine kR ?_
 refine kM 1 rfl ?_
 refine AOps_q 27 _ rfl rfl rfl (QOp_neq _ _ _ _ _ _ _ rfl rfl rfl) ?_
 refine AOps_nil ?_
 refine kI h rfl (fun h _ => ?_) (fun h _ => ?_)
 ·refine kR ?_
  refine kN 3 rfl ?_
  refine ACode_ret ?_
  cases h
  exact ⟨_, _, fun r a w h => ⟨r, h⟩, _, _, [], _, (.cons (ResV_tmp _ _ rfl) (.cons (ResV_tmp _ _ rfl) .nil)), rfl, rfl, rfl, rfl, rfl⟩
 refine ACode_skip ?_
 refine kR ?_
 refine AOps_q 30 _ rfl rfl rfl (QOp_loadN_pv _ _ _ _ _ _ rfl Try.isAgg27 Try.sizeOf27 rfl (colD_all _) (colD_length _)) ?_
 refine kM 2 rfl ?_
 obtain ⟨r11, hr11, h⟩ := bindO h
 refine kC [] 33 (.tup [.d (.sl none (intsD r11.1)), bV r11.2]) [] rfl Try.call62 rfl rfl (spec_l04First_ac k p0 p1 p2 _ hr11) rfl ?_
 refine kN 5 rfl ?_
 refine ACode_seq ?_
 refine kR ?_
 refine kM 1 rfl ?_
 refine AOps_q 37 _ rfl rfl rfl (QOp_not _ _ _ rfl rfl) ?_
 refine AOps_nil ?_
 refine kI h rfl (fun h _ => ?_) (fun h _ => ?_)
 ·refine kR ?_
  refine kN 2 rfl ?_
  refine ACode_ret ?_
  cases h
  exact ⟨_, _, fun r a w h => ⟨r, h⟩, _, _, [], _, (.cons (ResV_tmp _ _ rfl) (.cons (ResV_tmp _ _ rfl) .nil)), rfl, rfl, rfl, rfl, rfl⟩
 refine ACode_skip ?_
 refine kR ?_
 refine kN 3 rfl ?_
 refine ACode_ret ?_
 cases h
 exact ⟨_, _, fun r a w h => ⟨r, h⟩, _, _, [], _, (.cons (ResV_tmp _ _ rfl) (.cons (ResV_tmp _ _ rfl) .nil)), rfl, rfl, rfl, rfl, rfl⟩

-- loop.example/g01362/spec.l08Two
def spec_l08Two (k : Nat) (p0 : List UInt8) (p1 : Int) (p2 : Int) : Option (Int × Int) :=
 (spec_l01From k p0).bind fun r1 => (spec_l01Next r1 (w64 ((w64 (p2 - p1)) + 1))).bind fun r2 => (spec_l01Pick r2.2 ([4, w64 ((w64 (p2 - p1)) + 1)])).bind fun r3 => (spec_l01Next r3.2 r3.1).bind fun r4 => ((spec_l01Next r4.2 24).bind fun r5 => (if decide (r5.1 = 0) then (spec_l01Pick r5.2 ([w64 (p1 - 1), w64 (p2 + 1), (-4611686018427387904)])).bind fun r7 => some (r7.1, w64 (p1 + r4.1)) else (if decide (r5.1 = 1) then (spec_l01Pick r5.2 ([w64 (p1 - 1), w64 (p2 + 1), 1099511627776])).bind fun r9 => some (w64 (p1 + r2.1), r9.1) else some (w64 (p1 + r2.1), w64 (p1 + r4.1)))) : Option (Int × Int)).bind fun s10 => some (s10.1, s10.2)
set_option maxRecDepth 100000 in
theorem spec_l08Two_ac (k : Nat) (p0 : List UInt8) (p1 : Int) (p2 : Int) (r : Int × Int) (h : spec_l08Two k p0 p1 p2 = some r) : AC Try.prog 63 [.d (.sl none (bysD p0)), iV p1, iV p2] [] (fun res H' => res = [iV r.1, iV r.2] ∧ H' = []) := by
 refine AC_of_body true Try.func63 rfl Try.ntmps63 (rvs := [.tmp 6, .tmp 7]) rfl rfl (fun G hG => ?_)
 have hm : G.H.length = 0 := by rw [hG]; rfl
 have hz : zeroG G.H = true := by rw [hG]; rfl
 unfold spec_l08Two at h
 refine kR ?_
 refine kN 2 rfl ?_
 refine kR ?_
 refine kM 1 rfl ?_
 obtain ⟨r1, hr1, h⟩ := bindO h
 refine kC [] 12 (.ptr 0 0) [.box (srcD r1)] rfl Try.call58 rfl rfl (spec_l01From_ac k p0 _ hr1) rfl ?_
 refine kN 1 rfl ?_
 refine kR ?_
 refine kM 4 rfl ?_
 refine AOps_q 17 _ rfl rfl rfl (QOp_sub _ _ _ _ _ _ _ rfl rfl rfl) ?_
 refine AOps_q 18 _ rfl rfl rfl (QOp_add _ _ _ _ _ _ _ rfl rfl rfl) ?_
 obtain ⟨r2, hr2, h⟩ := bindO h
 refine kC [0] 19 (iV r2.1) [.box (srcD r2.2)] rfl Try.call92 rfl rfl (spec_l01Next_ac r1 (w64 ((w64 (p2 - p1)) + 1)) _ hr2) rfl ?_
 refine AOps_q 20 _ rfl rfl rfl (QOp_add _ _ _ _ _ _ _ rfl rfl rfl) ?_
 refine kM 5 rfl ?_
 refine AOps_q 26 _ rfl rfl rfl (QOp_sub _ _ _ _ _ _ _ rfl rfl rfl) ?_
 refine AOps_q 27 _ rfl rfl rfl (QOp_add _ _ _ _ _ _ _ rfl rfl rfl) ?_
 refine AOps_buildSlice 28 _ _ _ [_, _] (intsD ([4, w64 ((w64 (p2 - p1)) + 1)])) _ rfl rfl rfl rfl rfl (by decide) Try.underlying34 Try.sizeOf2 (zero_of Try.typeInfo2 rfl) rfl rfl (intsD_one _) ?_
 refine AOps_freezeL [28] 1 0 _ (allc (rfl) (fun _ h => nomatch h)) rfl ?_
 obtain ⟨r3, hr3, h⟩ := bindO h
 refine kC [0] 29 (iV r3.1) [.box (srcD r3.2), .gone] rfl Try.call60 rfl rfl (spec_l01Pick_ac r2.2 ([4, w64 ((w64 (p2 - p1)) + 1)]) _ hr3) rfl ?_
 obtain ⟨r4, hr4, h⟩ := bindO h
 refine kC [0] 30 (iV r4.1) [.box (srcD r4.2), .gone] rfl Try.call92 rfl rfl (spec_l01Next_ac r3.2 r3.1 _ hr4) rfl ?_
 refine AOps_q 31 _ rfl rfl rfl (QOp_add _ _ _ _ _ _ _ rfl rfl rfl) ?_
 refine kN 2 rfl ?_
 refine kB (fun s10 => [(9, iV s10.1), (10, iV s10.2)]) (fun s10 => []) h (fun s10 h => ?_) (fun s10 h => ?_)
 ·refine kR ?_
  refine kM 1 rfl ?_
  obtain ⟨r5, hr5, h⟩ := bindO h
  refine kC [0] 33 (iV r5.1) [.box (srcD r5.2), .gone] rfl Try.call92 rfl rfl (spec_l01Next_ac r4.2 24 _ hr5) rfl ?_
  refine AOps_nil ?_
  refine ACode_block ?_
  refine kR ?_
  refine AOps_q 35 _ rfl rfl rfl (QOp_eql _ _ _ _ _ _ _ rfl rfl rfl) ?_
  refine kN 1 rfl ?_
  refine kI h rfl (fun h _ => ?_) (fun h _ => ?_)
  ·refine (ACode_region ?_)
   refine kM 2 rfl ?_
   refine AOps_q 38 _ rfl rfl rfl (QOp_sub _ _ _ _ _ _ _ rfl rfl rfl) ?_
   refine kM 1 rfl ?_
   refine AOps_q 40 _ rfl rfl rfl (QOp_add _ _ _ _ _ _ _ rfl rfl rfl) ?_
   refine AOps_buildSlice 41 _ _ _ [_, _, _] (intsD ([w64 (p1 - 1), w64 (p2 + 1), (-4611686018427387904)])) _ rfl rfl rfl rfl rfl (by decide) Try.underlying34 Try.sizeOf2 (zero_of Try.typeInfo2 rfl) rfl rfl (intsD_one _) ?_
   refine AOps_freezeL [41] 2 0 _ (allc (rfl) (fun _ h => nomatch h)) rfl ?_
   obtain ⟨r7, hr7, h⟩ := bindO h
   refine kC [0] 42 (iV r7.1) [.box (srcD r7.2), .gone, .gone] rfl Try.call60 rfl rfl (spec_l01Pick_ac r5.2 ([w64 (p1 - 1), w64 (p2 + 1), (-4611686018427387904)]) _ hr7) rfl ?_
   refine kN 1 rfl ?_
   cases h
   exact Weak_keep 0 hm [9, 10] [] _ _ rfl rfl rfl
  refine kR ?_
  refine AOps_q 44 _ rfl rfl rfl (QOp_eql _ _ _ _ _ _ _ rfl rfl rfl) ?_
  refine kN 1 rfl ?_
  refine kI h rfl (fun h _ => ?_) (fun h _ => ?_)
  ·refine (ACode_region ?_)
   refine kM 2 rfl ?_
   refine AOps_q 47 _ rfl rfl rfl (QOp_sub _ _ _ _ _ _ _ rfl rfl rfl) ?_
   refine kM 1 rfl ?_
   refine AOps_q 49 _ rfl rfl rfl (QOp_add _ _ _ _ _ _ _ rfl rfl rfl) ?_
   refine AOps_buildSlice 50 _ _ _ [_, _, _] (intsD ([w64 (p1 - 1), w64 (p2 + 1), 1099511627776])) _ rfl rfl rfl rfl rfl (by decide) Try.underlying34 Try.sizeOf2 (zero_of Try.typeInfo2 rfl) rfl rfl (intsD_one _) ?_
   refine AOps_freezeL [50] 2 0 _ (allc (rfl) (fun _ h => nomatch h)) rfl ?_
   obtain ⟨r9, hr9, h⟩ := bindO h
   refine kC [0] 51 (iV r9.1) [.box (srcD r9.2), .gone, .gone] rfl Try.call60 rfl rfl (spec_l01Pick_ac r5.2 ([w64 (p1 - 1), w64 (p2 + 1), 1099511627776]) _ hr9) rfl ?_
   refine kN 1 rfl ?_
   cases h
   exact Weak_keep 0 hm [9, 10] [] _ _ rfl rfl rfl
  refine ACode_skip ?_
  cases h
  exact Weak_keep 0 hm [9, 10] [] _ _ rfl rfl rfl
 refine kR ?_
 refine kN 4 rfl ?_
 refine ACode_ret ?_
 cases h
 exact ⟨_, _, fun r a w h => ⟨r, h⟩, _, _, [], _, (.cons (ResV_tmp _ _ rfl) (.cons (ResV_tmp _ _ rfl) .nil)), rfl, rfl, rfl, rfl, rfl⟩

-- loop.example/g01362/spec.DrawPathNumber
def spec_DrawPathNumber (k : Nat) (p0 : List UInt8) : Option (Int × Int) :=
 (spec_l08Two k p0 2 1000).bind fun r1 => some (r1.1, r1.2)
set_option maxRecDepth 100000 in
theorem spec_DrawPathNumber_ac (k : Nat) (p0 : List UInt8) (r : Int × Int) (h : spec_DrawPathNumber k p0 = some r) : AC Try.prog 19 [.d (.sl none (bysD p0))] [] (fun res H' => res = [iV r.1, iV r.2] ∧ H' = []) := by
 refine AC_of_body true Try.func19 rfl Try.ntmps19 (rvs := [.tmp 2, .tmp 3]) rfl rfl (fun G hG => ?_)
 have hm : G.H.length = 0 := by rw [hG]; rfl
 have hz : zeroG G.H = true := by rw [hG]; rfl
 unfold spec_DrawPathNumber at h
 refine kR ?_
 refine kN 2 rfl ?_
 refine kR ?_
 refine kM 1 rfl ?_
 obtain ⟨r1, hr1, h⟩ := bindO h
 refine kC [] 5 (.tup [iV r1.1, iV r1.2]) [] rfl Try.call63 rfl rfl (spec_l08Two_ac k p0 2 1000 _ hr1) rfl ?_
 refine kN 4 rfl ?_
 refine ACode_ret ?_
 cases h
 exact ⟨_, _, fun r a w h => ⟨r, h⟩, _, _, [], _, (.cons (ResV_tmp _ _ rfl) (.cons (ResV_tmp _ _ rfl) .nil)), rfl, rfl, rfl, rfl, rfl⟩

-- loop.example/g01362/impl.PathNumber
def impl_PathNumber (p0 : Int) (p1 : Int) : Option (Int × Int) :=
 (letO (if !(impl_in p0 2 1000) then true else !(impl_in p1 2 1000)) fun (s4 : Bool) => (if s4 then some (.inr (0, 2)) else some (.inl ())) : Option (Sum (Unit) (Int × Int))).bind fun os6 => (match os6 with | .inl s6 => some (w64 ((w64 ((if p0 < p1 then p1 else p0) + (w64 ((if p1 < p0 then p1 else p0).tdiv 2)))) - 1), 0) | .inr rr => some rr)
set_option maxRecDepth 100000 in
theorem impl_PathNumber_ac (p0 : Int) (p1 : Int) (r : Int × Int) (h : impl_PathNumber p0 p1 = some r) : AC Try.prog 20 [iV p0, iV p1] [] (fun res H' => res = [iV r.1, iV r.2] ∧ H' = []) := by
 refine AC_of_body true Try.func20 rfl Try.ntmps20 (rvs := [.tmp 4, .tmp 5]) rfl rfl (fun G hG => ?_)
 have hm : G.H.length = 0 := by rw [hG]; rfl
 have hz : zeroG G.H = true := by rw [hG]; rfl
 unfold impl_PathNumber at h
 refine kR ?_
 refine kN 2 rfl ?_
 refine kO (fun s6 => [(0, iV p0), (1, iV p1)]) (fun s6 => []) h (fun os6 h hks6 => ?_) (fun s6 h => ?_)
 ·refine kL (fun s4 => [(0, iV p0), (1, iV p1), (13, bV s4)]) (fun s4 => []) h (fun s4 h => ?_) (fun s4 h => ?_)
  ·refine (ACode_region ?_)
   refine kM 1 rfl ?_
   refine kC [] 7 (bV (impl_in p0 2 1000)) [] rfl Try.call47 rfl rfl (impl_in_ac p0 2 1000) rfl ?_
   refine AOps_q 8 _ rfl rfl rfl (QOp_not _ _ _ rfl rfl) ?_
   refine kM 1 rfl ?_
   refine AOps_case 9 _ rfl (fun hb2 => ?_) (fun hb2 => ?_)
   ·have h := iteT hb2 h
    refine AOps_skip 10 rfl rfl rfl ?_
    refine AOps_skip 11 rfl rfl rfl ?_
    refine AOps_skip 12 rfl rfl rfl ?_
    refine kN 1 rfl ?_
    cases h
    exact Weak_keep 0 hm [0, 1, 13] [] _ _ rfl rfl rfl
   have h := iteF hb2 h
   refine kM 1 rfl ?_
   refine kC [] 11 (bV (impl_in p1 2 1000)) [] rfl Try.call47 rfl rfl (impl_in_ac p1 2 1000) rfl ?_
   refine AOps_q 12 _ rfl rfl rfl (QOp_not _ _ _ rfl rfl) ?_
   refine kN 1 rfl ?_
   cases h
   exact Weak_keep 0 hm [0, 1, 13] [] _ _ rfl rfl rfl
  refine kI h rfl (fun h _ => ?_) (fun h _ => ?_)
  ·refine kR ?_
   refine kN 2 rfl ?_
   refine ACode_ret ?_
   cases h
   have h := hks6
   cases h
   exact ⟨_, _, fun r a w h => ⟨r, h⟩, _, _, [], _, (.cons (ResV_tmp _ _ rfl) (.cons (ResV_tmp _ _ rfl) .nil)), rfl, rfl, rfl, rfl, rfl⟩
  refine ACode_skip ?_
  cases h
  exact ⟨_, rfl, Weak_keep 0 hm [0, 1] [] _ _ rfl rfl rfl⟩
 refine kR ?_
 refine kM 2 rfl ?_
 refine AOps_q 16 _ rfl rfl rfl (QOp_max _ _ _ _ _ _ rfl rfl rfl rfl rfl) ?_
 refine kM 2 rfl ?_
 refine AOps_q 19 _ rfl rfl rfl (QOp_min _ _ _ _ _ _ rfl rfl rfl rfl rfl) ?_
 refine AOps_q 20 _ rfl rfl rfl (QOp_quo _ _ _ _ _ _ _ (by decide) rfl rfl rfl) ?_
 refine AOps_q 21 _ rfl rfl rfl (QOp_add _ _ _ _ _ _ _ rfl rfl rfl) ?_
 refine AOps_q 22 _ rfl rfl rfl (QOp_sub _ _ _ _ _ _ _ rfl rfl rfl) ?_
 refine kN 2 rfl ?_
 refine ACode_ret ?_
 cases h
 exact ⟨_, _, fun r a w h => ⟨r, h⟩, _, _, [], _, (.cons (ResV_tmp _ _ rfl) (.cons (ResV_tmp _ _ rfl) .nil)), rfl, rfl, rfl, rfl, rfl⟩

-- loop.example/g01362/spec.PathNumber
def spec_PathNumber (p0 : Int) (p1 : Int) : Option (Int × Int) :=
 (letO (if !(spec_l01In p0 2 1000) then true else !(spec_l01In p1 2 1000)) fun (s4 : Bool) => (if s4 then some (.inr (0, 2)) else some (.inl ())) : Option (Sum (Unit) (Int × Int))).bind fun os6 => (match os6 with | .inl s6 => some (w64 ((w64 ((if p0 < p1 then p1 else p0) + (w64 ((if p1 < p0 then p1 else p0).tdiv 2)))) - 1), 0) | .inr rr => some rr)
set_option maxRecDepth 100000 in
theorem spec_PathNumber_ac (p0 : Int) (p1 : Int) (r : Int × Int) (h : spec_PathNumber p0 p1 = some r) : AC Try.prog 21 [iV p0, iV p1] [] (fun res H' => res = [iV r.1, iV r.2] ∧ H' = []) := by
 refine AC_of_body true Try.func21 rfl Try.ntmps21 (rvs := [.tmp 4, .tmp 5]) rfl rfl (fun G hG => ?_)
 have hm : G.H.length = 0 := by rw [hG]; rfl
 have hz : zeroG G.H = true := by rw [hG]; rfl
 unfold spec_PathNumber at h
 refine kR ?_
 refine kN 2 rfl ?_
 refine kO (fun s6 => [(0, iV p0), (1, iV p1)]) (fun s6 => []) h (fun os6 h hks6 => ?_) (fun s6 h => ?_)
 ·refine kL (fun s4 => [(0, iV p0), (1, iV p1), (13, bV s4)]) (fun s4 => []) h (fun s4 h => ?_) (fun s4 h => ?_)
  ·refine (ACode_region ?_)
   refine kM 1 rfl ?_
   refine kC [] 7 (bV (spec_l01In p0 2 1000)) [] rfl Try.call38 rfl rfl (spec_l01In_ac p0 2 1000) rfl ?_
   refine AOps_q 8 _ rfl rfl rfl (QOp_not _ _ _ rfl rfl) ?_
   refine kM 1 rfl ?_
   refine AOps_case 9 _ rfl (fun hb2 => ?_) (fun hb2 => ?_)
   ·have h := iteT hb2 h
    refine AOps_skip 10 rfl rfl rfl ?_
    refine AOps_skip 11 rfl rfl rfl ?_
    refine AOps_skip 12 rfl rfl rfl ?_
    refine kN 1 rfl ?_
    cases h
    exact Weak_keep 0 hm [0, 1, 13] [] _ _ rfl rfl rfl
   have h := iteF hb2 h
   refine kM 1 rfl ?_
   refine kC [] 11 (bV (spec_l01In p1 2 1000)) [] rfl Try.call38 rfl rfl (spec_l01In_ac p1 2 1000) rfl ?_
   refine AOps_q 12 _ rfl rfl rfl (QOp_not _ _ _ rfl rfl) ?_
   refine kN 1 rfl ?_
   cases h
   exact Weak_keep 0 hm [0, 1, 13] [] _ _ rfl rfl rfl
  refine kI h rfl (fun h _ => ?_) (fun h _ => ?_)
  ·refine kR ?_
   refine kN 2 rfl ?_
   refine ACode_ret ?_
   cases h
   have h := hks6
   cases h
   exact ⟨_, _, fun r a w h => ⟨r, h⟩, _, _, [], _, (.cons (ResV_tmp _ _ rfl) (.cons (ResV_tmp _ _ rfl) .nil)), rfl, rfl, rfl, rfl, rfl⟩
  refine ACode_skip ?_
  cases h
  exact ⟨_, rfl, Weak_keep 0 hm [0, 1] [] _ _ rfl rfl rfl⟩
 refine kR ?_
 refine kM 2 rfl ?_
 refine AOps_q 16 _ rfl rfl rfl (QOp_max _ _ _ _ _ _ rfl rfl rfl rfl rfl) ?_
 refine kM 2 rfl ?_
 refine AOps_q 19 _ rfl rfl rfl (QOp_min _ _ _ _ _ _ rfl rfl rfl rfl rfl) ?_
 refine AOps_q 20 _ rfl rfl rfl (QOp_quo _ _ _ _ _ _ _ (by decide) rfl rfl rfl) ?_
 refine AOps_q 21 _ rfl rfl rfl (QOp_add _ _ _ _ _ _ _ rfl rfl rfl) ?_
 refine AOps_q 22 _ rfl rfl rfl (QOp_sub _ _ _ _ _ _ _ rfl rfl rfl) ?_
 refine kN 2 rfl ?_
 refine ACode_ret ?_
 cases h
 exact ⟨_, _, fun r a w h => ⟨r, h⟩, _, _, [], _, (.cons (ResV_tmp _ _ rfl) (.cons (ResV_tmp _ _ rfl) .nil)), rfl, rfl, rfl, rfl, rfl⟩

-- (*loop.example/g01362/impl.Colouring).has
def impl_Colouring_has (p0 : Col) (p1 : Int) : Bool :=
 (impl_in p1 0 (w64 (p0.p - 1)))
set_option maxRecDepth 100000 in
theorem impl_Colouring_has_ac (p0 : Col) (p1 : Int) : AC Try.prog 75 [.d (.pv (colD p0) 0), iV p1] [] (fun res H' => res = [bV (impl_Colouring_has p0 p1)] ∧ H' = []) := by
 refine AC_of_body true Try.func75 rfl Try.ntmps75 (rvs := [.tmp 4]) rfl rfl (fun G hG => ?_)
 have hm : G.H.length = 0 := by rw [hG]; rfl
 have hz : zeroG G.H = true := by rw [hG]; rfl
 obtain ⟨r, h⟩ : ∃ r, impl_Colouring_has p0 p1 = r := ⟨_, rfl⟩
 rw [h]
 unfold impl_Colouring_has at h
 refine kR ?_
 refine kN 1 rfl ?_
 refine kR ?_
 refine kM 2 rfl ?_
 refine AOps_q 7 _ rfl rfl rfl (QOp_nilCheck_pv _ _ _ rfl rfl) ?_
 refine AOps_q 8 _ rfl rfl rfl (QOp_fieldAddr_pv _ _ _ _ _ 0 _ _ rfl Try.underlying27 rfl _ Try.sizeOf2 rfl rfl) ?_
 refine AOps_q 9 _ rfl rfl rfl (QOp_load_pv _ _ _ _ _ rfl Try.isAgg2 rfl rfl) ?_
 refine AOps_q 10 _ rfl rfl rfl (QOp_sub _ _ _ _ _ _ _ rfl rfl rfl) ?_
 refine kC [] 11 (bV (impl_in p1 0 (w64 (p0.p - 1)))) [] rfl Try.call47 rfl rfl (impl_in_ac p1 0 (w64 (p0.p - 1))) rfl ?_
 refine kN 1 rfl ?_
 refine ACode_ret ?_
 cases h
 exact ⟨_, _, fun r a w h => ⟨r, h⟩, _, _, [], _, (.cons (ResV_tmp _ _ rfl) .nil), rfl, rfl, rfl, rfl, rfl⟩

-- (*loop.example/g01362/impl.Colouring).hasTwo
def impl_Colouring_hasTwo (p0 : Col) (p1 : Int) (p2 : Int) : Bool :=
 letO (if (impl_Colouring_has p0 p1) then (if (impl_Colouring_has p0 p2) then !decide (p1 = p2) else false) else false) fun (s5 : Bool) => s5
set_option maxRecDepth 100000 in
theorem impl_Colouring_hasTwo_ac (p0 : Col) (p1 : Int) (p2 : Int) : AC Try.prog 66 [.d (.pv (colD p0) 0), iV p1, iV p2] [] (fun res H' => res = [bV (impl_Colouring_hasTwo p0 p1 p2)] ∧ H' = []) := by
 refine AC_of_body true Try.func66 rfl Try.ntmps66 (rvs := [.tmp 6]) rfl rfl (fun G hG => ?_)
 have hm : G.H.length = 0 := by rw [hG]; rfl
 have hz : zeroG G.H = true := by rw [hG]; rfl
 obtain ⟨r, h⟩ : ∃ r, impl_Colouring_hasTwo p0 p1 p2 = r := ⟨_, rfl⟩
 rw [h]
 unfold impl_Colouring_hasTwo at h
 refine kR ?_
 refine kN 1 rfl ?_
 refine kL (fun s5 => [(6, bV s5)]) (fun s5 => []) h (fun s5 h => ?_) (fun s5 h => ?_)
 ·refine (ACode_region ?_)
  refine kM 2 rfl ?_
  refine kC [] 9 (bV (impl_Colouring_has p0 p1)) [] rfl Try.call75 rfl rfl (impl_Colouring_has_ac p0 p1) rfl ?_
  refine kM 1 rfl ?_
  refine AOps_case 10 _ rfl (fun hb2 => ?_) (fun hb2 => ?_)
  ·have h := iteT hb2 h
   refine kM 2 rfl ?_
   refine kC [] 13 (bV (impl_Colouring_has p0 p2)) [] rfl Try.call75 rfl rfl (impl_Colouring_has_ac p0 p2) rfl ?_
   refine kM 2 rfl ?_
   refine AOps_case 15 _ rfl (fun hb4 => ?_) (fun hb4 => ?_)
   ·have h := iteT hb4 h
    refine kM 2 rfl ?_
    refine AOps_q 18 _ rfl rfl rfl (QOp_neq _ _ _ _ _ _ _ rfl rfl rfl) ?_
    refine kN 2 rfl ?_
    cases h
    exact Weak_keep 0 hm [6] [] _ _ rfl rfl rfl
   have h := iteF hb4 h
   refine AOps_skip 16 rfl rfl rfl ?_
   refine AOps_skip 17 rfl rfl rfl ?_
   refine AOps_skip 18 rfl rfl rfl ?_
   refine kN 2 rfl ?_
   cases h
   exact Weak_keep 0 hm [6] [] _ _ rfl rfl rfl
  have h := iteF hb2 h
  refine AOps_skip 11 rfl rfl rfl ?_
  refine AOps_skip 12 rfl rfl rfl ?_
  refine AOps_skip 13 rfl rfl rfl ?_
  refine kM 2 rfl ?_
  refine AOps_skip 16 rfl rfl rfl ?_
  refine AOps_skip 17 rfl rfl rfl ?_
  refine AOps_skip 18 rfl rfl rfl ?_
  refine kN 2 rfl ?_
  cases h
  exact Weak_keep 0 hm [6] [] _ _ rfl rfl rfl
 refine ACode_ret ?_
 cases h
 exact ⟨_, _, fun r a w h => ⟨r, h⟩, _, _, [], _, (.cons (ResV_tmp _ _ rfl) .nil), rfl, rfl, rfl, rfl, rfl⟩

-- loop.example/g01362/impl.ColourOf$1
def impl_ColourOf_c1 (p0 : Col) (p1 : Int) (p2 : Int) : Bool :=
 (impl_Colouring_hasTwo p0 p1 p2)
set_option maxRecDepth 100000 in
theorem impl_ColourOf_c1_ac (p0 : Col) (p1 : Int) (p2 : Int) : AC Try.prog 65 [.d (.pv (colD p0) 0), .d (.pv ([iD p1]) 0), .d (.pv ([iD p2]) 0)] [] (fun res H' => res = [bV (impl_ColourOf_c1 p0 p1 p2)] ∧ H' = []) := by
 refine AC_of_body true Try.func65 rfl Try.ntmps65 (rvs := [.tmp 3]) rfl rfl (fun G hG => ?_)
 have hm : G.H.length = 0 := by rw [hG]; rfl
 have hz : zeroG G.H = true := by rw [hG]; rfl
 obtain ⟨r, h⟩ : ∃ r, impl_ColourOf_c1 p0 p1 p2 = r := ⟨_, rfl⟩
 rw [h]
 unfold impl_ColourOf_c1 at h
 refine kR ?_
 refine kN 1 rfl ?_
 refine kR ?_
 refine AOps_q 4 _ rfl rfl rfl (QOp_load_pv _ _ _ _ _ rfl Try.isAgg2 rfl rfl) ?_
 refine AOps_q 5 _ rfl rfl rfl (QOp_load_pv _ _ _ _ _ rfl Try.isAgg2 rfl rfl) ?_
 refine kC [] 6 (bV (impl_Colouring_hasTwo p0 p1 p2)) [] rfl Try.call66 rfl rfl (impl_Colouring_hasTwo_ac p0 p1 p2) rfl ?_
 refine kN 1 rfl ?_
 refine ACode_ret ?_
 cases h
 exact ⟨_, _, fun r a w h => ⟨r, h⟩, _, _, [], _, (.cons (ResV_tmp _ _ rfl) .nil), rfl, rfl, rfl, rfl, rfl⟩

-- loop.example/g01362/impl.ColourOf
def impl_ColourOf (k : Nat) (p0 : Col) (p1 : Int) (p2 : Int) : Option (Int × Int) :=
 (impl_Colouring_code k p0 (some (impl_ColourOf_c1 p0 p1 p2))).bind fun r1 => (if !decide (r1 = 0) then some (0, r1) else (impl_Colouring_at p0 p1 p2).bind fun r3 => some (r3, 0))
set_option maxRecDepth 100000 in
theorem impl_ColourOf_ac (k : Nat) (p0 : Col) (p1 : Int) (p2 : Int) (r : Int × Int) (h : impl_ColourOf k p0 p1 p2 = some r) : AC Try.prog 22 [.d (.agg (colD p0)), iV p1, iV p2] [] (fun res H' => res = [iV r.1, iV r.2] ∧ H' = []) := by
 refine AC_of_body true Try.func22 rfl Try.ntmps22 (rvs := [.tmp 6, .tmp 7]) rfl rfl (fun G hG => ?_)
 have hm : G.H.length = 0 := by rw [hG]; rfl
 have hz : zeroG G.H = true := by rw [hG]; rfl
 unfold impl_ColourOf at h
 refine kR ?_
 refine AOps_boxI 3 _ _ (.agg (colD p0)) (colD p0) rfl (colD_one _) rfl rfl rfl rfl rfl ?_
 refine AOps_boxI 4 _ _ (iD p1) _ rfl (fun c hc => by cases hc with | head => rfl | tail _ h => cases h) rfl rfl rfl rfl rfl ?_
 refine AOps_boxI 5 _ _ (iD p2) _ rfl (fun c hc => by cases hc with | head => rfl | tail _ h => cases h) rfl rfl rfl rfl rfl ?_
 refine kN 2 rfl ?_
 refine ACode_seq ?_
 refine kR ?_
 refine AOps_q 9 _ rfl rfl rfl (QOp_makeFuncD _ _ _ _ rfl rfl rfl) ?_
 obtain ⟨r1, hr1, h⟩ := bindO h
 refine kC [] 10 (iV r1) [] rfl Try.call64 rfl rfl (impl_Colouring_code_ac k p0 (some (impl_ColourOf_c1 p0 p1 p2)) 65 ([.pv (colD p0) 0, .pv ([iD p1]) 0, .pv ([iD p2]) 0]) Try.call65 (fun r h => by cases h; exact impl_ColourOf_c1_ac p0 p1 p2) _ hr1) rfl ?_
 refine kN 1 rfl ?_
 refine kR ?_
 refine kM 1 rfl ?_
 refine AOps_q 12 _ rfl rfl rfl (QOp_neq _ _ _ _ _ _ _ rfl rfl rfl) ?_
 refine AOps_nil ?_
 refine kI h rfl (fun h _ => ?_) (fun h _ => ?_)
 ·refine kR ?_
  refine kN 3 rfl ?_
  refine ACode_ret ?_
  cases h
  exact ⟨_, _, fun r a w h => ⟨r, h⟩, _, _, [], _, (.cons (ResV_tmp _ _ rfl) (.cons (ResV_tmp _ _ rfl) .nil)), rfl, rfl, rfl, rfl, rfl⟩
 refine ACode_skip ?_
 refine kR ?_
 refine AOps_q 14 _ rfl rfl rfl (QOp_load_pv _ _ _ _ _ rfl Try.isAgg2 rfl rfl) ?_
 refine AOps_q 15 _ rfl rfl rfl (QOp_load_pv _ _ _ _ _ rfl Try.isAgg2 rfl rfl) ?_
 obtain ⟨r3, hr3, h⟩ := bindO h
 refine kC [] 16 (iV r3) [] rfl Try.call67 rfl rfl (impl_Colouring_at_ac p0 p1 p2 _ hr3) rfl ?_
 refine kN 2 rfl ?_
 refine ACode_ret ?_
 cases h
 exact ⟨_, _, fun r a w h => ⟨r, h⟩, _, _, [], _, (.cons (ResV_tmp _ _ rfl) (.cons (ResV_tmp _ _ rfl) .nil)), rfl, rfl, rfl, rfl, rfl⟩

-- loop.example/g01362/laws.FnPaths
def laws_FnPaths_l0 (k : Nat) (r18 : Col × Int × Int) (r19 : Option (List Int) × Int) : Nat → Int → Option (Sum (Unit) (Bool))
 | 0, _ => none
 | k0 + 1, x35 => (if decide (x35 < ((r19.1.getD []).length : Int)) then ((if 0 ≤ x35 ∧ x35 < ((r19.1.getD []).length : Int) then (if ((r19.1.getD []).length : Int) ≠ 0 then (if 0 ≤ (w64 (x35 + 1)).tmod ((r19.1.getD []).length : Int) ∧ (w64 (x35 + 1)).tmod ((r19.1.getD []).length : Int) < ((r19.1.getD []).length : Int) then (impl_ColourOf k r18.1 ((r19.1.getD []).getD x35.toNat 0) ((r19.1.getD []).getD ((w64 (x35 + 1)).tmod ((r19.1.getD []).length : Int)).toNat 0)).bind fun r40 => letO (if !decide (r40.2 = 0) then true else !decide (r40.1 = r18.2.1)) fun (s42 : Bool) => (if s42 then (some (.inr false)).bind fun rr => some (.inr rr) else some (.inl ())) else none) else none) else none) : Option (Sum (Unit) (Sum (Unit) (Bool)))).bind fun os44 => (match os44 with | .inl s44 => laws_FnPaths_l0 k r18 r19 k0 (w64 (x35 + 1)) | .inr rr => some rr) else some (.inl ()))
def laws_FnPaths_l1 (k : Nat) (r3 : Col × Int) (r4 : Option (List Int) × Int) : Nat → Int → Option (Sum (Unit) (Bool))
 | 0, _ => none
 | k1 + 1, x47 => (if decide (w64 (x47 + 1) < ((r4.1.getD []).length : Int)) then ((if 0 ≤ x47 ∧ x47 < ((r4.1.getD []).length : Int) then (if 0 ≤ w64 (x47 + 1) ∧ w64 (x47 + 1) < ((r4.1.getD []).length : Int) then (impl_ColourOf k r3.1 ((r4.1.getD []).getD x47.toNat 0) ((r4.1.getD []).getD (w64 (x47 + 1)).toNat 0)).bind fun r51 => letO (if !decide (r51.2 = 0) then true else !decide (r51.1 = r3.2)) fun (s53 : Bool) => (if s53 then (some (.inr false)).bind fun rr => some (.inr rr) else some (.inl ())) else none) else none) : Option (Sum (Unit) (Sum (Unit) (Bool)))).bind fun os55 => (match os55 with | .inl s55 => laws_FnPaths_l1 k r3 r4 k1 (w64 (x47 + 1)) | .inr rr => some rr) else some (.inl ()))
def laws_FnPaths (k : Nat) (p0 : List UInt8) : Option (Bool) :=
 (if (laws_big p0) then some true else (spec_DrawLongestPath k p0).bind fun r3 => (impl_LongestPath k r3.1 r3.2).bind fun r4 => ((spec_LongestPath k r3.1 r3.2).bind fun r5 => ((if !decide (r4.2 = r5.2) then some true else (laws_likeInts k (r4.1.getD []) r5.1).bind fun r7 => some (!r7)) : Option (Bool)).bind fun s8 => (if s8 then some (.inr false) else some (.inl ())) : Option (Sum (Unit) (Bool))).bind fun os10 => (match os10 with | .inl s10 => (impl_CycleLengths k r3.1 r3.2).bind fun r11 => ((spec_CycleLengths k r3.1 r3.2).bind fun r12 => ((if !decide (r11.2 = r12.2) then some true else (laws_likeInts k (r11.1.getD []) r12.1).bind fun r14 => some (!r14)) : Option (Bool)).bind fun s15 => (if s15 then some (.inr false) else some (.inl ())) : Option (Sum (Unit) (Bool))).bind fun os17 => (match os17 with | .inl s17 => (spec_DrawFirstCycle k p0).bind fun r18 => (impl_FirstCycle k r18.1 r18.2.1 r18.2.2).bind fun r19 => ((spec_FirstCycle k r18.1 r18.2.1 r18.2.2).bind fun r20 => ((if !decide (r19.2 = r20.2) then some true else (laws_likeInts k (r19.1.getD []) r20.1).bind fun r22 => some (!r22)) : Option (Bool)).bind fun s23 => (if s23 then some (.inr false) else some (.inl ())) : Option (Sum (Unit) (Bool))).bind fun os25 => (match os25 with | .inl s25 => (spec_DrawPathNumber k p0).bind fun r26 => (impl_PathNumber r26.1 r26.2).bind fun r27 => ((spec_PathNumber r26.1 r26.2).bind fun r28 => letO (if !decide (r27.2 = r28.2) then true else !decide (r27.1 = r28.1)) fun (s30 : Bool) => (if s30 then some (.inr false) else some (.inl ())) : Option (Sum (Unit) (Bool))).bind fun os32 => (match os32 with | .inl s32 => ((if decide (r19.2 = 0) then (if !decide (((r19.1.getD []).length : Int) = r18.2.2) then some (.inr false) else laws_FnPaths_l0 k r18 r19 k 0) else some (.inl ())) : Option (Sum (Unit) (Bool))).bind fun os45 => (match os45 with | .inl s45 => (if !decide (r4.2 = 0) then some (decide (((r4.1.getD []).length : Int) = 0)) else (laws_FnPaths_l1 k r3 r4 k 0 : Option (Sum (Unit) (Bool))).bind fun os56 => (match os56 with | .inl s56 => (((if decide (((r4.1.getD []).length : Int) < 1) then some true else (if !decide (r11.2 = 0) then some true else (if decide (0 < ((r11.1.getD []).length : Int)) then (if 0 ≤ w64 (((r11.1.getD []).length : Int) - 1) ∧ w64 (((r11.1.getD []).length : Int) - 1) < ((r11.1.getD []).length : Int) then some (decide (((r4.1.getD []).length : Int) < ((r11.1.getD []).getD (w64 (((r11.1.getD []).length : Int) - 1)).toNat 0))) else none) else some false))) : Option (Bool)).bind fun s61 => (if s61 then some (.inr false) else some (.inl ())) : Option (Sum (Unit) (Bool))).bind fun os63 => (match os63 with | .inl s63 => (if !decide (r3.1.k = 2) then some true else (impl_LongestPath k r3.1 (w64 (1 - r3.2))).bind fun r65 => (impl_PathNumber (w64 (((r4.1.getD []).length : Int) + 1)) (w64 (((r65.1.getD []).length : Int) + 1))).bind fun r66 => letO (if decide (r65.2 = 0) then (if decide (r66.2 = 0) then decide (r3.1.p < r66.1) else false) else false) fun (s69 : Bool) => some s69) | .inr rr => some rr) | .inr rr => some rr)) | .inr rr => some rr) | .inr rr => some rr) | .inr rr => some rr) | .inr rr => some rr) | .inr rr => some rr))
set_option maxHeartbeats 2000000 in
set_option maxRecDepth 100000 in
theorem laws_FnPaths_ac (k : Nat) (p0 : List UInt8) (r : Bool) (h : laws_FnPaths k p0 = some r) : AC Try.prog 4 [.d (.sl none (bysD p0))] [] (fun res H' => res = [bV r] ∧ H' = []) := by
 refine AC_of_body true Try.func4 rfl Try.ntmps4 (rvs := [.tmp 2]) rfl rfl (fun G hG => ?_)
 have hm : G.H.length = 0 := by rw [hG]; rfl
 have hz : zeroG G.H = true := by rw [hG]; rfl
 unfold laws_FnPaths at h
 refine kR ?_
 refine kN 1 rfl ?_
 refine ACode_seq ?_
 refine kR ?_
 refine kM 1 rfl ?_
 refine kC [] 37 (bV (laws_big p0)) [] rfl Try.call9 rfl rfl (laws_big_ac p0) rfl ?_
 refine AOps_nil ?_
 refine kI h rfl (fun h _ => ?_) (fun h _ => ?_)
 ·refine kR ?_
  refine kN 1 rfl ?_
  refine ACode_ret ?_
  cases h
  exact ⟨_, _, fun r a w h => ⟨r, h⟩, _, _, [], _, (.cons (ResV_tmp _ _ rfl) .nil), rfl, rfl, rfl, rfl, rfl⟩
 refine ACode_skip ?_
 refine kR ?_
 refine kM 1 rfl ?_
 obtain ⟨r3, hr3, h⟩ := bindO h
 refine kC [] 40 (.tup [.d (.agg (colD r3.1)), iV r3.2]) [] rfl Try.call10 rfl rfl (spec_DrawLongestPath_ac k p0 _ hr3) rfl ?_
 refine kM 3 rfl ?_
 refine AOps_alloc 3 _ _ (colD Col.zero) (zero_of Try.typeInfo27 rfl) (by rfl) rfl rfl rfl rfl ?_
 refine AOps_store _ _ _ _ _ _ (colD _) _ _ rfl rfl rfl rfl rfl rfl rfl (colD_one _) (by rw [colD_length]; exact Try.sizeOf27) (by rw [colD_length, colD_length]; decide) (colD_whole _ _) ?_
 refine kN 1 rfl ?_
 refine kR ?_
 refine AOps_q 44 _ rfl rfl rfl (QOp_loadN_ptr _ _ _ _ _ _ _ rfl Try.isAgg27 Try.sizeOf27 rfl rfl (colD_all _) (colD_length _)) ?_
 refine kM 1 rfl ?_
 obtain ⟨r4, hr4, h⟩ := bindO h
 refine kC [] 46 (.tup [.d (.sl none (intsD (r4.1.getD []))), iV r4.2]) [.box (colD r3.1)] rfl Try.call11 rfl rfl (AC_frz rfl (frz_cons frz_nil) (impl_LongestPath_ac k r3.1 r3.2 _ hr4)) rfl ?_
 refine kN 5 rfl ?_
 refine kO (fun s10 => [(0, .d (.sl none (bysD p0))), (3, .ptr 0 0), (4, iV r3.2), (5, .d (.sl none (intsD (r4.1.getD [])))), (6, iV r4.2)]) (fun s10 => [.box (colD r3.1)]) h (fun os10 h hks10 => ?_) (fun s10 h => ?_)
 ·refine kR ?_
  refine AOps_q 50 _ rfl rfl rfl (QOp_loadN_ptr _ _ _ _ _ _ _ rfl Try.isAgg27 Try.sizeOf27 rfl rfl (colD_all _) (colD_length _)) ?_
  refine kM 1 rfl ?_
  obtain ⟨r5, hr5, h⟩ := bindO h
  refine kC [] 52 (.tup [.d (.sl none (intsD r5.1)), iV r5.2]) [.box (colD r3.1)] rfl Try.call12 rfl rfl (spec_LongestPath_ac k r3.1 r3.2 _ hr5) rfl ?_
  refine kN 5 rfl ?_
  refine kB (fun s8 => [(0, .d (.sl none (bysD p0))), (3, .ptr 0 0), (4, iV r3.2), (5, .d (.sl none (intsD (r4.1.getD [])))), (6, iV r4.2), (63, bV s8)]) (fun s8 => [.box (colD r3.1)]) h (fun s8 h => ?_) (fun s8 h => ?_)
  ·refine (ACode_region ?_)
   refine kM 2 rfl ?_
   refine AOps_q 57 _ rfl rfl rfl (QOp_neq _ _ _ _ _ _ _ rfl rfl rfl) ?_
   refine kM 1 rfl ?_
   refine AOps_case 58 _ rfl (fun hb6 => ?_) (fun hb6 => ?_)
   ·have h := iteT hb6 h
    refine AOps_skip 59 rfl rfl rfl ?_
    refine AOps_skip 60 rfl rfl rfl ?_
    refine AOps_skip 61 rfl rfl rfl ?_
    refine AOps_skip 62 rfl rfl rfl ?_
    refine kN 1 rfl ?_
    cases h
    exact Weak_keep 0 hm [0, 3, 4, 5, 6, 63] [0] _ _ rfl rfl rfl
   have h := iteF hb6 h
   refine kM 2 rfl ?_
   obtain ⟨r7, hr7, h⟩ := bindO h
   refine kC [] 61 (bV r7) [.box (colD r3.1)] rfl Try.call13 rfl rfl (laws_likeInts_ac k (r4.1.getD []) r5.1 _ hr7) rfl ?_
   refine AOps_q 62 _ rfl rfl rfl (QOp_not _ _ _ rfl rfl) ?_
   refine kN 1 rfl ?_
   cases h
   exact Weak_keep 0 hm [0, 3, 4, 5, 6, 63] [0] _ _ rfl rfl rfl
  refine kI h rfl (fun h _ => ?_) (fun h _ => ?_)
  ·refine kR ?_
   refine kN 1 rfl ?_
   refine ACode_ret ?_
   cases h
   have h := hks10
   cases h
   exact ⟨_, _, fun r a w h => ⟨r, h⟩, _, _, [], _, (.cons (ResV_tmp _ _ rfl) .nil), rfl, rfl, rfl, rfl, rfl⟩
  refine ACode_skip ?_
  cases h
  exact ⟨_, rfl, Weak_keep 0 hm [0, 3, 4, 5, 6] [0] _ _ rfl rfl rfl⟩
 refine kR ?_
 refine AOps_q 65 _ rfl rfl rfl (QOp_loadN_ptr _ _ _ _ _ _ _ rfl Try.isAgg27 Try.sizeOf27 rfl rfl (colD_all _) (colD_length _)) ?_
 refine kM 1 rfl ?_
 obtain ⟨r11, hr11, h⟩ := bindO h
 refine kC [] 67 (.tup [.d (.sl none (intsD (r11.1.getD []))), iV r11.2]) [.box (colD r3.1)] rfl Try.call14 rfl rfl (AC_frz rfl (frz_cons frz_nil) (impl_CycleLengths_ac k r3.1 r3.2 _ hr11)) rfl ?_
 refine kN 5 rfl ?_
 refine kO (fun s17 => [(0, .d (.sl none (bysD p0))), (3, .ptr 0 0), (4, iV r3.2), (5, .d (.sl none (intsD (r4.1.getD [])))), (6, iV r4.2), (9, .d (.sl none (intsD (r11.1.getD [])))), (10, iV r11.2)]) (fun s17 => [.box (colD r3.1)]) h (fun os17 h hks17 => ?_) (fun s17 h => ?_)
 ·refine kR ?_
  refine AOps_q 71 _ rfl rfl rfl (QOp_loadN_ptr _ _ _ _ _ _ _ rfl Try.isAgg27 Try.sizeOf27 rfl rfl (colD_all _) (colD_length _)) ?_
  refine kM 1 rfl ?_
  obtain ⟨r12, hr12, h⟩ := bindO h
  refine kC [] 73 (.tup [.d (.sl none (intsD r12.1)), iV r12.2]) [.box (colD r3.1)] rfl Try.call15 rfl rfl (spec_CycleLengths_ac k r3.1 r3.2 _ hr12) rfl ?_
  refine kN 5 rfl ?_
  refine kB (fun s15 => [(0, .d (.sl none (bysD p0))), (3, .ptr 0 0), (4, iV r3.2), (5, .d (.sl none (intsD (r4.1.getD [])))), (6, iV r4.2), (9, .d (.sl none (intsD (r11.1.getD [])))), (10, iV r11.2), (84, bV s15)]) (fun s15 => [.box (colD r3.1)]) h (fun s15 h => ?_) (fun s15 h => ?_)
  ·refine (ACode_region ?_)
   refine kM 2 rfl ?_
   refine AOps_q 78 _ rfl rfl rfl (QOp_neq _ _ _ _ _ _ _ rfl rfl rfl) ?_
   refine kM 1 rfl ?_
   refine AOps_case 79 _ rfl (fun hb13 => ?_) (fun hb13 => ?_)
   ·have h := iteT hb13 h
    refine AOps_skip 80 rfl rfl rfl ?_
    refine AOps_skip 81 rfl rfl rfl ?_
    refine AOps_skip 82 rfl rfl rfl ?_
    refine AOps_skip 83 rfl rfl rfl ?_
    refine kN 1 rfl ?_
    cases h
    exact Weak_keep 0 hm [0, 3, 4, 5, 6, 9, 10, 84] [0] _ _ rfl rfl rfl
   have h := iteF hb13 h
   refine kM 2 rfl ?_
   obtain ⟨r14, hr14, h⟩ := bindO h
   refine kC [] 82 (bV r14) [.box (colD r3.1)] rfl Try.call13 rfl rfl (laws_likeInts_ac k (r11.1.getD []) r12.1 _ hr14) rfl ?_
   refine AOps_q 83 _ rfl rfl rfl (QOp_not _ _ _ rfl rfl) ?_
   refine kN 1 rfl ?_
   cases h
   exact Weak_keep 0 hm [0, 3, 4, 5, 6, 9, 10, 84] [0] _ _ rfl rfl rfl
  refine kI h rfl (fun h _ => ?_) (fun h _ => ?_)
  ·refine kR ?_
   refine kN 1 rfl ?_
   refine ACode_ret ?_
   cases h
   have h := hks17
   cases h
   exact ⟨_, _, fun r a w h => ⟨r, h⟩, _, _, [], _, (.cons (ResV_tmp _ _ rfl) .nil), rfl, rfl, rfl, rfl, rfl⟩
  refine ACode_skip ?_
  cases h
  exact ⟨_, rfl, Weak_keep 0 hm [0, 3, 4, 5, 6, 9, 10] [0] _ _ rfl rfl rfl⟩
 refine kR ?_
 refine kM 1 rfl ?_
 obtain ⟨r18, hr18, h⟩ := bindO h
 refine kC [] 87 (.tup [.d (.agg (colD r18.1)), iV r18.2.1, iV r18.2.2]) [.box (colD r3.1)] rfl Try.call16 rfl rfl (spec_DrawFirstCycle_ac k p0 _ hr18) rfl ?_
 refine kM 4 rfl ?_
 refine AOps_alloc 13 _ _ (colD Col.zero) (zero_of Try.typeInfo27 rfl) (by rfl) rfl rfl rfl rfl ?_
 refine AOps_store _ _ _ _ _ _ (colD _) _ _ rfl rfl rfl rfl rfl rfl rfl (colD_one _) (by rw [colD_length]; exact Try.sizeOf27) (by rw [colD_length, colD_length]; decide) (colD_whole _ _) ?_
 refine kN 2 rfl ?_
 refine kR ?_
 refine AOps_q 92 _ rfl rfl rfl (QOp_loadN_ptr _ _ _ _ _ _ _ rfl Try.isAgg27 Try.sizeOf27 rfl rfl (colD_all _) (colD_length _)) ?_
 refine kM 2 rfl ?_
 obtain ⟨r19, hr19, h⟩ := bindO h
 refine kC [] 95 (.tup [.d (.sl none (intsD (r19.1.getD []))), iV r19.2]) [.box (colD r3.1), .box (colD r18.1)] rfl Try.call17 rfl rfl (AC_frz rfl (frz_cons frz_nil) (impl_FirstCycle_ac k r18.1 r18.2.1 r18.2.2 _ hr19)) rfl ?_
 refine kN 5 rfl ?_
 refine kO (fun s25 => [(0, .d (.sl none (bysD p0))), (3, .ptr 0 0), (4, iV r3.2), (5, .d (.sl none (intsD (r4.1.getD [])))), (6, iV r4.2), (9, .d (.sl none (intsD (r11.1.getD [])))), (10, iV r11.2), (13, .ptr 1 0), (14, iV r18.2.1), (15, iV r18.2.2), (16, .d (.sl none (intsD (r19.1.getD [])))), (17, iV r19.2)]) (fun s25 => [.box (colD r3.1), .box (colD r18.1)]) h (fun os25 h hks25 => ?_) (fun s25 h => ?_)
 ·refine kR ?_
  refine AOps_q 99 _ rfl rfl rfl (QOp_loadN_ptr _ _ _ _ _ _ _ rfl Try.isAgg27 Try.sizeOf27 rfl rfl (colD_all _) (colD_length _)) ?_
  refine kM 2 rfl ?_
  obtain ⟨r20, hr20, h⟩ := bindO h
  refine kC [] 102 (.tup [.d (.sl none (intsD r20.1)), iV r20.2]) [.box (colD r3.1), .box (colD r18.1)] rfl Try.call18 rfl rfl (spec_FirstCycle_ac k r18.1 r18.2.1 r18.2.2 _ hr20) rfl ?_
  refine kN 5 rfl ?_
  refine kB (fun s23 => [(0, .d (.sl none (bysD p0))), (3, .ptr 0 0), (4, iV r3.2), (5, .d (.sl none (intsD (r4.1.getD [])))), (6, iV r4.2), (9, .d (.sl none (intsD (r11.1.getD [])))), (10, iV r11.2), (13, .ptr 1 0), (14, iV r18.2.1), (15, iV r18.2.2), (16, .d (.sl none (intsD (r19.1.getD [])))), (17, iV r19.2), (113, bV s23)]) (fun s23 => [.box (colD r3.1), .box (colD r18.1)]) h (fun s23 h => ?_) (fun s23 h => ?_)
  ·refine (ACode_region ?_)
   refine kM 2 rfl ?_
   refine AOps_q 107 _ rfl rfl rfl (QOp_neq _ _ _ _ _ _ _ rfl rfl rfl) ?_
   refine kM 1 rfl ?_
   refine AOps_case 108 _ rfl (fun hb21 => ?_) (fun hb21 => ?_)
   ·have h := iteT hb21 h
    refine AOps_skip 109 rfl rfl rfl ?_
    refine AOps_skip 110 rfl rfl rfl ?_
    refine AOps_skip 111 rfl rfl rfl ?_
    refine AOps_skip 112 rfl rfl rfl ?_
    refine kN 1 rfl ?_
    cases h
    exact Weak_keep 0 hm [0, 3, 4, 5, 6, 9, 10, 13, 14, 15, 16, 17, 113] [0, 1] _ _ rfl rfl rfl
   have h := iteF hb21 h
   refine kM 2 rfl ?_
   obtain ⟨r22, hr22, h⟩ := bindO h
   refine kC [] 111 (bV r22) [.box (colD r3.1), .box (colD r18.1)] rfl Try.call13 rfl rfl (laws_likeInts_ac k (r19.1.getD []) r20.1 _ hr22) rfl ?_
   refine AOps_q 112 _ rfl rfl rfl (QOp_not _ _ _ rfl rfl) ?_
   refine kN 1 rfl ?_
   cases h
   exact Weak_keep 0 hm [0, 3, 4, 5, 6, 9, 10, 13, 14, 15, 16, 17, 113] [0, 1] _ _ rfl rfl rfl
  refine kI h rfl (fun h _ => ?_) (fun h _ => ?_)
  ·refine kR ?_
   refine kN 1 rfl ?_
   refine ACode_ret ?_
   cases h
   have h := hks25
   cases h
   exact ⟨_, _, fun r a w h => ⟨r, h⟩, _, _, [], _, (.cons (ResV_tmp _ _ rfl) .nil), rfl, rfl, rfl, rfl, rfl⟩
  refine ACode_skip ?_
  cases h
  exact ⟨_, rfl, Weak_keep 0 hm [0, 3, 4, 5, 6, 9, 10, 13, 14, 15, 16, 17] [0, 1] _ _ rfl rfl rfl⟩
 refine kR ?_
 refine kM 1 rfl ?_
 obtain ⟨r26, hr26, h⟩ := bindO h
 refine kC [] 116 (.tup [iV r26.1, iV r26.2]) [.box (colD r3.1), .box (colD r18.1)] rfl Try.call19 rfl rfl (spec_DrawPathNumber_ac k p0 _ hr26) rfl ?_
 refine kN 5 rfl ?_
 refine kR ?_
 refine kM 2 rfl ?_
 obtain ⟨r27, hr27, h⟩ := bindO h
 refine kC [] 122 (.tup [iV r27.1, iV r27.2]) [.box (colD r3.1), .box (colD r18.1)] rfl Try.call20 rfl rfl (impl_PathNumber_ac r26.1 r26.2 _ hr27) rfl ?_
 refine kN 5 rfl ?_
 refine kO (fun s32 => [(3, .ptr 0 0), (4, iV r3.2), (5, .d (.sl none (intsD (r4.1.getD [])))), (6, iV r4.2), (9, .d (.sl none (intsD (r11.1.getD [])))), (10, iV r11.2), (13, .ptr 1 0), (14, iV r18.2.1), (15, iV r18.2.2), (16, .d (.sl none (intsD (r19.1.getD [])))), (17, iV r19.2)]) (fun s32 => [.box (colD r3.1), .box (colD r18.1)]) h (fun os32 h hks32 => ?_) (fun s32 h => ?_)
 ·refine kR ?_
  refine kM 2 rfl ?_
  obtain ⟨r28, hr28, h⟩ := bindO h
  refine kC [] 128 (.tup [iV r28.1, iV r28.2]) [.box (colD r3.1), .box (colD r18.1)] rfl Try.call21 rfl rfl (spec_PathNumber_ac r26.1 r26.2 _ hr28) rfl ?_
  refine kN 5 rfl ?_
  refine kL (fun s30 => [(3, .ptr 0 0), (4, iV r3.2), (5, .d (.sl none (intsD (r4.1.getD [])))), (6, iV r4.2), (9, .d (.sl none (intsD (r11.1.getD [])))), (10, iV r11.2), (13, .ptr 1 0), (14, iV r18.2.1), (15, iV r18.2.2), (16, .d (.sl none (intsD (r19.1.getD [])))), (17, iV r19.2), (138, bV s30)]) (fun s30 => [.box (colD r3.1), .box (colD r18.1)]) h (fun s30 h => ?_) (fun s30 h => ?_)
  ·refine (ACode_region ?_)
   refine kM 2 rfl ?_
   refine AOps_q 133 _ rfl rfl rfl (QOp_neq _ _ _ _ _ _ _ rfl rfl rfl) ?_
   refine kM 1 rfl ?_
   refine AOps_case 134 _ rfl (fun hb29 => ?_) (fun hb29 => ?_)
   ·have h := iteT hb29 h
    refine AOps_skip 135 rfl rfl rfl ?_
    refine AOps_skip 136 rfl rfl rfl ?_
    refine AOps_skip 137 rfl rfl rfl ?_
    refine kN 1 rfl ?_
    cases h
    exact Weak_keep 0 hm [3, 4, 5, 6, 9, 10, 13, 14, 15, 16, 17, 138] [0, 1] _ _ rfl rfl rfl
   have h := iteF hb29 h
   refine kM 2 rfl ?_
   refine AOps_q 137 _ rfl rfl rfl (QOp_neq _ _ _ _ _ _ _ rfl rfl rfl) ?_
   refine kN 1 rfl ?_
   cases h
   exact Weak_keep 0 hm [3, 4, 5, 6, 9, 10, 13, 14, 15, 16, 17, 138] [0, 1] _ _ rfl rfl rfl
  refine kI h rfl (fun h _ => ?_) (fun h _ => ?_)
  ·refine kR ?_
   refine kN 1 rfl ?_
   refine ACode_ret ?_
   cases h
   have h := hks32
   cases h
   exact ⟨_, _, fun r a w h => ⟨r, h⟩, _, _, [], _, (.cons (ResV_tmp _ _ rfl) .nil), rfl, rfl, rfl, rfl, rfl⟩
  refine ACode_skip ?_
  cases h
  exact ⟨_, rfl, Weak_keep 0 hm [3, 4, 5, 6, 9, 10, 13, 14, 15, 16, 17] [0, 1] _ _ rfl rfl rfl⟩
 refine kO (fun s45 => [(3, .ptr 0 0), (4, iV r3.2), (5, .d (.sl none (intsD (r4.1.getD [])))), (6, iV r4.2), (9, .d (.sl none (intsD (r11.1.getD [])))), (10, iV r11.2)]) (fun s45 => [.box (colD r3.1)]) h (fun os45 h hks45 => ?_) (fun s45 h => ?_)
 ·refine kR ?_
  refine kM 1 rfl ?_
  refine AOps_q 140 _ rfl rfl rfl (QOp_eql _ _ _ _ _ _ _ rfl rfl rfl) ?_
  refine AOps_nil ?_
  refine kI h rfl (fun h _ => ?_) (fun h _ => ?_)
  ·refine ACode_seq ?_
   refine kR ?_
   refine kM 1 rfl ?_
   refine AOps_q 142 _ rfl rfl rfl (QOp_len_sl _ _ _ _ _ _ _ (intsD_length _) rfl rfl rfl rfl Try.underlying34 rfl) ?_
   refine kM 1 rfl ?_
   refine AOps_q 144 _ rfl rfl rfl (QOp_neq _ _ _ _ _ _ _ rfl rfl rfl) ?_
   refine AOps_nil ?_
   refine kI h rfl (fun h _ => ?_) (fun h _ => ?_)
   ·refine kR ?_
    refine kN 1 rfl ?_
    refine ACode_ret ?_
    cases h
    have h := hks45
    cases h
    exact ⟨_, _, fun r a w h => ⟨r, h⟩, _, _, [], _, (.cons (ResV_tmp _ _ rfl) .nil), rfl, rfl, rfl, rfl, rfl⟩
   refine ACode_skip ?_
   refine kR ?_
   refine kN 1 rfl ?_
   refine ACode_block ?_
   refine ACode_loopW (fun k0 E H => ∃ (x35 : Int), E = [(3, .ptr 0 0), (4, iV r3.2), (5, .d (.sl none (intsD (r4.1.getD [])))), (6, iV r4.2), (9, .d (.sl none (intsD (r11.1.getD [])))), (10, iV r11.2), (13, .ptr 1 0), (14, iV r18.2.1), (16, .d (.sl none (intsD (r19.1.getD [])))), (26, iV x35)] ∧ H = [.box (colD r3.1), .box (colD r18.1)] ∧ laws_FnPaths_l0 k r18 r19 k0 x35 = some os45) k _ _ (Weak_keep 0 hm [3, 4, 5, 6, 9, 10, 13, 14, 16, 26] [0, 1] _ _ rfl rfl rfl) ⟨_, rfl, rfl, h⟩ ?_
   clear h
   rintro k0 E H ⟨x35, rfl, rfl, h⟩
   cases k0 with
   | zero => cases (show (none : Option (Sum (Unit) (Bool))) = some _ from h)
   | succ k0 =>
    rw [laws_FnPaths_l0] at h
    refine ACode_seq ?_
    refine kR ?_
    refine kM 2 rfl ?_
    refine AOps_q 147 _ rfl rfl rfl (QOp_len_sl _ _ _ _ _ _ _ (intsD_length _) rfl rfl rfl rfl Try.underlying34 rfl) ?_
    refine AOps_q 148 _ rfl rfl rfl (QOp_lss _ _ _ _ _ _ _ rfl rfl rfl) ?_
    refine AOps_nil ?_
    refine kI h rfl (fun h _ => ?_) (fun h _ => ?_)
    ·refine ACode_skip ?_
     refine kO (fun s44 => [(3, .ptr 0 0), (4, iV r3.2), (5, .d (.sl none (intsD (r4.1.getD [])))), (6, iV r4.2), (9, .d (.sl none (intsD (r11.1.getD [])))), (10, iV r11.2), (13, .ptr 1 0), (14, iV r18.2.1), (16, .d (.sl none (intsD (r19.1.getD [])))), (26, iV x35)]) (fun s44 => [.box (colD r3.1), .box (colD r18.1)]) h (fun os44 h hks44 => ?_) (fun s44 h => ?_)
     ·refine ACode_block ?_
      obtain ⟨hc37, h⟩ := guardO h
      obtain ⟨hc38, h⟩ := guardO h
      obtain ⟨hc39, h⟩ := guardO h
      obtain ⟨r40, hr40, h⟩ := bindO h
      refine ACode_seqJ (fun E' H' => Weak 263 G E' H' [(3, .ptr 0 0), (4, iV r3.2), (5, .d (.sl none (intsD (r4.1.getD [])))), (6, iV r4.2), (9, .d (.sl none (intsD (r11.1.getD [])))), (10, iV r11.2), (13, .ptr 1 0), (14, iV r18.2.1), (16, .d (.sl none (intsD (r19.1.getD [])))), (26, iV x35), (27, iV r40.1), (28, iV r40.2)] [.box (colD r3.1), .box (colD r18.1)]) ?_ ?_
      ·refine ACode_any mixed ?_
       refine AAny_q 0 152 _ rfl (by kernel_rfl) rfl rfl rfl (QOp_loadN_ptr _ _ _ _ _ _ _ rfl Try.isAgg27 Try.sizeOf27 rfl rfl (colD_all _) (colD_length _)) ?_
       refine AAny_q 1 153 _ rfl (by kernel_rfl) rfl rfl rfl (QOp_move _ _ rfl rfl) ?_
       refine AAny_q 2 154 _ rfl (by kernel_rfl) rfl rfl rfl (QOp_move _ _ rfl rfl) ?_
       refine AAny_q 3 155 _ rfl (by kernel_rfl) rfl rfl rfl (QOp_indexAddr_sl _ _ _ _ _ _ _ _ rfl Try.underlying34 Try.sizeOf2 hc37.1 (by rw [intsD_length]; exact hc37.2) rfl rfl) ?_
       refine AAny_q 4 156 _ rfl (by kernel_rfl) rfl rfl rfl (QOp_load_pv _ _ _ _ _ rfl Try.isAgg2 rfl (intsD_get _ _ 0 (by omega))) ?_
       refine AAny_q 5 157 _ rfl (by kernel_rfl) rfl rfl rfl (QOp_move _ _ rfl rfl) ?_
       refine AAny_q 6 158 _ rfl (by kernel_rfl) rfl rfl rfl (QOp_move _ _ rfl rfl) ?_
       refine AAny_q 7 159 _ rfl (by kernel_rfl) rfl rfl rfl (QOp_add _ _ _ _ _ _ _ rfl rfl rfl) ?_
       refine AAny_q 8 160 _ rfl (by kernel_rfl) rfl rfl rfl (QOp_move _ _ rfl rfl) ?_
       refine AAny_q 9 161 _ rfl (by kernel_rfl) rfl rfl rfl (QOp_len_sl _ _ _ _ _ _ _ (intsD_length _) rfl rfl rfl rfl Try.underlying34 rfl) ?_
       refine AAny_q 10 162 _ rfl (by kernel_rfl) rfl rfl rfl (QOp_rem _ _ _ _ _ _ _ hc38 rfl rfl rfl) ?_
       refine AAny_q 11 163 _ rfl (by kernel_rfl) rfl rfl rfl (QOp_indexAddr_sl _ _ _ _ _ _ _ _ rfl Try.underlying34 Try.sizeOf2 hc39.1 (by rw [intsD_length]; exact hc39.2) rfl rfl) ?_
       refine AAny_q 12 164 _ rfl (by kernel_rfl) rfl rfl rfl (QOp_load_pv _ _ _ _ _ rfl Try.isAgg2 rfl (intsD_get _ _ 0 (by omega))) ?_
       refine AAny_all [13] (by kernel_rfl) rfl (allc ?_ (fun _ h => nomatch h))
       refine AStep_callN 13 165 _ _ _ _ _ _ _ _ _ rfl rfl rfl rfl rfl rfl rfl rfl Try.call22 rfl rfl rfl (impl_ColourOf_ac k r18.1 ((r19.1.getD []).getD x35.toNat 0) ((r19.1.getD []).getD ((w64 (x35 + 1)).tmod ((r19.1.getD []).length : Int)).toNat 0) _ hr40) ?_
       rintro _ _ ⟨rfl, rfl⟩
       refine ⟨(fun _ h => nomatch h), (allc (trivial) (allc (trivial) (fun _ h => nomatch h))), AAny_as 165 (v' := .tup [iV r40.1, iV r40.2]) (H' := [.box (colD r3.1), .box (colD r18.1)]) rfl rfl ?_⟩
       refine AAny_q 14 151 _ rfl (by kernel_rfl) rfl rfl rfl (QOp_move _ _ rfl rfl) ?_
       refine AAny_q 15 166 _ rfl (by kernel_rfl) rfl rfl rfl (QOp_extract _ _ _ _ rfl rfl rfl) ?_
       refine AAny_q 16 167 _ rfl (by kernel_rfl) rfl rfl rfl (QOp_extract _ _ _ _ rfl rfl rfl) ?_
       refine AAny_q 17 27 _ rfl (by kernel_rfl) rfl rfl rfl (QOp_assign _ _ rfl rfl) ?_
       refine AAny_q 18 28 _ rfl (by kernel_rfl) rfl rfl rfl (QOp_assign _ _ rfl rfl) ?_
       refine AAny_done (by kernel_rfl) ?_
       exact Weak_keep 0 hm [3, 4, 5, 6, 9, 10, 13, 14, 16, 26, 27, 28] [0, 1] _ _ rfl rfl rfl
      intro E' H' hw
      refine ACode_weak hw ?_
      refine kL (fun s42 => [(3, .ptr 0 0), (4, iV r3.2), (5, .d (.sl none (intsD (r4.1.getD [])))), (6, iV r4.2), (9, .d (.sl none (intsD (r11.1.getD [])))), (10, iV r11.2), (13, .ptr 1 0), (14, iV r18.2.1), (16, .d (.sl none (intsD (r19.1.getD [])))), (26, iV x35), (174, bV s42)]) (fun s42 => [.box (colD r3.1), .box (colD r18.1)]) h (fun s42 h => ?_) (fun s42 h => ?_)
      ·refine (ACode_region ?_)
       refine kM 1 rfl ?_
       refine AOps_q 169 _ rfl rfl rfl (QOp_neq _ _ _ _ _ _ _ rfl rfl rfl) ?_
       refine kM 1 rfl ?_
       refine AOps_case 170 _ rfl (fun hb41 => ?_) (fun hb41 => ?_)
       ·have h := iteT hb41 h
        refine AOps_skip 171 rfl rfl rfl ?_
        refine AOps_skip 172 rfl rfl rfl ?_
        refine AOps_skip 173 rfl rfl rfl ?_
        refine kN 1 rfl ?_
        cases h
        exact Weak_keep 0 hm [3, 4, 5, 6, 9, 10, 13, 14, 16, 26, 174] [0, 1] _ _ rfl rfl rfl
       have h := iteF hb41 h
       refine kM 2 rfl ?_
       refine AOps_q 173 _ rfl rfl rfl (QOp_neq _ _ _ _ _ _ _ rfl rfl rfl) ?_
       refine kN 1 rfl ?_
       cases h
       exact Weak_keep 0 hm [3, 4, 5, 6, 9, 10, 13, 14, 16, 26, 174] [0, 1] _ _ rfl rfl rfl
      refine kI h rfl (fun h _ => ?_) (fun h _ => ?_)
      ·refine kR ?_
       refine kN 1 rfl ?_
       refine ACode_ret ?_
       obtain ⟨rr, hz70, h2⟩ := bindO h
       obtain rfl := Option.some.inj h2
       obtain rfl := Option.some.inj (show some rr = some _ from hks44)
       have h := hz70
       cases h
       have h := hks45
       cases h
       exact ⟨_, _, fun r a w h => ⟨r, h⟩, _, _, [], _, (.cons (ResV_tmp _ _ rfl) .nil), rfl, rfl, rfl, rfl, rfl⟩
      refine ACode_skip ?_
      cases h
      exact ⟨_, rfl, Weak_keep 0 hm [3, 4, 5, 6, 9, 10, 13, 14, 16, 26] [0, 1] _ _ rfl rfl rfl⟩
     refine (ACode_region ?_)
     refine kM 1 rfl ?_
     refine AOps_q 150 _ rfl rfl rfl (QOp_add _ _ _ _ _ _ _ rfl rfl rfl) ?_
     refine kN 1 rfl ?_
     exact ⟨k0, _, _, Nat.lt_succ_self _, Weak_keep 0 hm [3, 4, 5, 6, 9, 10, 13, 14, 16, 26] [0, 1] _ _ rfl rfl rfl, _, rfl, rfl, h⟩
    refine ACode_exit ?_
    cases h
    exact ⟨_, rfl, Weak_keep 0 hm [3, 4, 5, 6, 9, 10] [0] _ _ rfl rfl rfl⟩
  refine ACode_skip ?_
  cases h
  exact ⟨_, rfl, Weak_keep 0 hm [3, 4, 5, 6, 9, 10] [0] _ _ rfl rfl rfl⟩
 refine ACode_seq ?_
 refine kR ?_
 refine kM 1 rfl ?_
 refine AOps_q 176 _ rfl rfl rfl (QOp_neq _ _ _ _ _ _ _ rfl rfl rfl) ?_
 refine AOps_nil ?_
 refine kI h rfl (fun h _ => ?_) (fun h _ => ?_)
 ·refine kR ?_
  refine kM 1 rfl ?_
  refine AOps_q 178 _ rfl rfl rfl (QOp_len_sl _ _ _ _ _ _ _ (intsD_length _) rfl rfl rfl rfl Try.underlying34 rfl) ?_
  refine AOps_q 179 _ rfl rfl rfl (QOp_eql _ _ _ _ _ _ _ rfl rfl rfl) ?_
  refine kN 1 rfl ?_
  refine ACode_ret ?_
  cases h
  exact ⟨_, _, fun r a w h => ⟨r, h⟩, _, _, [], _, (.cons (ResV_tmp _ _ rfl) .nil), rfl, rfl, rfl, rfl, rfl⟩
 refine ACode_skip ?_
 refine kO (fun s56 => [(3, .ptr 0 0), (4, iV r3.2), (5, .d (.sl none (intsD (r4.1.getD [])))), (9, .d (.sl none (intsD (r11.1.getD [])))), (10, iV r11.2)]) (fun s56 => [.box (colD r3.1)]) h (fun os56 h hks56 => ?_) (fun s56 h => ?_)
 ·refine kR ?_
  refine kN 1 rfl ?_
  refine ACode_block ?_
  refine ACode_loopW (fun k1 E H => ∃ (x47 : Int), E = [(3, .ptr 0 0), (4, iV r3.2), (5, .d (.sl none (intsD (r4.1.getD [])))), (9, .d (.sl none (intsD (r11.1.getD [])))), (10, iV r11.2), (29, iV x47)] ∧ H = [.box (colD r3.1)] ∧ laws_FnPaths_l1 k r3 r4 k1 x47 = some os56) k _ _ (Weak_keep 0 hm [3, 4, 5, 9, 10, 29] [0] _ _ rfl rfl rfl) ⟨_, rfl, rfl, h⟩ ?_
  clear h
  rintro k1 E H ⟨x47, rfl, rfl, h⟩
  cases k1 with
  | zero => cases (show (none : Option (Sum (Unit) (Bool))) = some _ from h)
  | succ k1 =>
   rw [laws_FnPaths_l1] at h
   refine ACode_seq ?_
   refine kR ?_
   refine kM 1 rfl ?_
   refine AOps_q 181 _ rfl rfl rfl (QOp_add _ _ _ _ _ _ _ rfl rfl rfl) ?_
   refine kM 1 rfl ?_
   refine AOps_q 183 _ rfl rfl rfl (QOp_len_sl _ _ _ _ _ _ _ (intsD_length _) rfl rfl rfl rfl Try.underlying34 rfl) ?_
   refine AOps_q 184 _ rfl rfl rfl (QOp_lss _ _ _ _ _ _ _ rfl rfl rfl) ?_
   refine AOps_nil ?_
   refine kI h rfl (fun h _ => ?_) (fun h _ => ?_)
   ·refine ACode_skip ?_
    refine kO (fun s55 => [(3, .ptr 0 0), (4, iV r3.2), (5, .d (.sl none (intsD (r4.1.getD [])))), (9, .d (.sl none (intsD (r11.1.getD [])))), (10, iV r11.2), (29, iV x47)]) (fun s55 => [.box (colD r3.1)]) h (fun os55 h hks55 => ?_) (fun s55 h => ?_)
    ·refine ACode_block ?_
     obtain ⟨hc49, h⟩ := guardO h
     obtain ⟨hc50, h⟩ := guardO h
     obtain ⟨r51, hr51, h⟩ := bindO h
     refine ACode_seqJ (fun E' H' => Weak 263 G E' H' [(3, .ptr 0 0), (4, iV r3.2), (5, .d (.sl none (intsD (r4.1.getD [])))), (9, .d (.sl none (intsD (r11.1.getD [])))), (10, iV r11.2), (29, iV x47), (30, iV r51.1), (31, iV r51.2)] [.box (colD r3.1)]) ?_ ?_
     ·refine ACode_any mixed ?_
      refine AAny_q 0 188 _ rfl (by kernel_rfl) rfl rfl rfl (QOp_loadN_ptr _ _ _ _ _ _ _ rfl Try.isAgg27 Try.sizeOf27 rfl rfl (colD_all _) (colD_length _)) ?_
      refine AAny_q 1 189 _ rfl (by kernel_rfl) rfl rfl rfl (QOp_move _ _ rfl rfl) ?_
      refine AAny_q 2 190 _ rfl (by kernel_rfl) rfl rfl rfl (QOp_move _ _ rfl rfl) ?_
      refine AAny_q 3 191 _ rfl (by kernel_rfl) rfl rfl rfl (QOp_indexAddr_sl _ _ _ _ _ _ _ _ rfl Try.underlying34 Try.sizeOf2 hc49.1 (by rw [intsD_length]; exact hc49.2) rfl rfl) ?_
      refine AAny_q 4 192 _ rfl (by kernel_rfl) rfl rfl rfl (QOp_load_pv _ _ _ _ _ rfl Try.isAgg2 rfl (intsD_get _ _ 0 (by omega))) ?_
      refine AAny_q 5 193 _ rfl (by kernel_rfl) rfl rfl rfl (QOp_move _ _ rfl rfl) ?_
      refine AAny_q 6 194 _ rfl (by kernel_rfl) rfl rfl rfl (QOp_move _ _ rfl rfl) ?_
      refine AAny_q 7 195 _ rfl (by kernel_rfl) rfl rfl rfl (QOp_add _ _ _ _ _ _ _ rfl rfl rfl) ?_
      refine AAny_q 8 196 _ rfl (by kernel_rfl) rfl rfl rfl (QOp_indexAddr_sl _ _ _ _ _ _ _ _ rfl Try.underlying34 Try.sizeOf2 hc50.1 (by rw [intsD_length]; exact hc50.2) rfl rfl) ?_
      refine AAny_q 9 197 _ rfl (by kernel_rfl) rfl rfl rfl (QOp_load_pv _ _ _ _ _ rfl Try.isAgg2 rfl (intsD_get _ _ 0 (by omega))) ?_
      refine AAny_all [10] (by kernel_rfl) rfl (allc ?_ (fun _ h => nomatch h))
      refine AStep_callN 10 198 _ _ _ _ _ _ _ _ _ rfl rfl rfl rfl rfl rfl rfl rfl Try.call22 rfl rfl rfl (impl_ColourOf_ac k r3.1 ((r4.1.getD []).getD x47.toNat 0) ((r4.1.getD []).getD (w64 (x47 + 1)).toNat 0) _ hr51) ?_
      rintro _ _ ⟨rfl, rfl⟩
      refine ⟨(fun _ h => nomatch h), (allc (trivial) (allc (trivial) (fun _ h => nomatch h))), AAny_as 198 (v' := .tup [iV r51.1, iV r51.2]) (H' := [.box (colD r3.1)]) rfl rfl ?_⟩
      refine AAny_q 11 187 _ rfl (by kernel_rfl) rfl rfl rfl (QOp_move _ _ rfl rfl) ?_
      refine AAny_q 12 199 _ rfl (by kernel_rfl) rfl rfl rfl (QOp_extract _ _ _ _ rfl rfl rfl) ?_
      refine AAny_q 13 200 _ rfl (by kernel_rfl) rfl rfl rfl (QOp_extract _ _ _ _ rfl rfl rfl) ?_
      refine AAny_q 14 30 _ rfl (by kernel_rfl) rfl rfl rfl (QOp_assign _ _ rfl rfl) ?_
      refine AAny_q 15 31 _ rfl (by kernel_rfl) rfl rfl rfl (QOp_assign _ _ rfl rfl) ?_
      refine AAny_done (by kernel_rfl) ?_
      exact Weak_keep 0 hm [3, 4, 5, 9, 10, 29, 30, 31] [0] _ _ rfl rfl rfl
     intro E' H' hw
     refine ACode_weak hw ?_
     refine kL (fun s53 => [(3, .ptr 0 0), (4, iV r3.2), (5, .d (.sl none (intsD (r4.1.getD [])))), (9, .d (.sl none (intsD (r11.1.getD [])))), (10, iV r11.2), (29, iV x47), (207, bV s53)]) (fun s53 => [.box (colD r3.1)]) h (fun s53 h => ?_) (fun s53 h => ?_)
     ·refine (ACode_region ?_)
      refine kM 1 rfl ?_
      refine AOps_q 202 _ rfl rfl rfl (QOp_neq _ _ _ _ _ _ _ rfl rfl rfl) ?_
      refine kM 1 rfl ?_
      refine AOps_case 203 _ rfl (fun hb52 => ?_) (fun hb52 => ?_)
      ·have h := iteT hb52 h
       refine AOps_skip 204 rfl rfl rfl ?_
       refine AOps_skip 205 rfl rfl rfl ?_
       refine AOps_skip 206 rfl rfl rfl ?_
       refine kN 1 rfl ?_
       cases h
       exact Weak_keep 0 hm [3, 4, 5, 9, 10, 29, 207] [0] _ _ rfl rfl rfl
      have h := iteF hb52 h
      refine kM 2 rfl ?_
      refine AOps_q 206 _ rfl rfl rfl (QOp_neq _ _ _ _ _ _ _ rfl rfl rfl) ?_
      refine kN 1 rfl ?_
      cases h
      exact Weak_keep 0 hm [3, 4, 5, 9, 10, 29, 207] [0] _ _ rfl rfl rfl
     refine kI h rfl (fun h _ => ?_) (fun h _ => ?_)
     ·refine kR ?_
      refine kN 1 rfl ?_
      refine ACode_ret ?_
      obtain ⟨rr, hz71, h2⟩ := bindO h
      obtain rfl := Option.some.inj h2
      obtain rfl := Option.some.inj (show some rr = some _ from hks55)
      have h := hz71
      cases h
      have h := hks56
      cases h
      exact ⟨_, _, fun r a w h => ⟨r, h⟩, _, _, [], _, (.cons (ResV_tmp _ _ rfl) .nil), rfl, rfl, rfl, rfl, rfl⟩
     refine ACode_skip ?_
     cases h
     exact ⟨_, rfl, Weak_keep 0 hm [3, 4, 5, 9, 10, 29] [0] _ _ rfl rfl rfl⟩
    refine (ACode_region ?_)
    refine kM 1 rfl ?_
    refine AOps_q 186 _ rfl rfl rfl (QOp_add _ _ _ _ _ _ _ rfl rfl rfl) ?_
    refine kN 1 rfl ?_
    exact ⟨k1, _, _, Nat.lt_succ_self _, Weak_keep 0 hm [3, 4, 5, 9, 10, 29] [0] _ _ rfl rfl rfl, _, rfl, rfl, h⟩
   refine ACode_exit ?_
   cases h
   exact ⟨_, rfl, Weak_keep 0 hm [3, 4, 5, 9, 10] [0] _ _ rfl rfl rfl⟩
 refine kO (fun s63 => [(3, .ptr 0 0), (4, iV r3.2), (5, .d (.sl none (intsD (r4.1.getD []))))]) (fun s63 => [.box (colD r3.1)]) h (fun os63 h hks63 => ?_) (fun s63 h => ?_)
 ·refine kB (fun s61 => [(3, .ptr 0 0), (4, iV r3.2), (5, .d (.sl none (intsD (r4.1.getD [])))), (230, bV s61)]) (fun s61 => [.box (colD r3.1)]) h (fun s61 h => ?_) (fun s61 h => ?_)
  ·refine (ACode_region ?_)
   refine kM 1 rfl ?_
   refine AOps_q 209 _ rfl rfl rfl (QOp_len_sl _ _ _ _ _ _ _ (intsD_length _) rfl rfl rfl rfl Try.underlying34 rfl) ?_
   refine AOps_q 210 _ rfl rfl rfl (QOp_lss _ _ _ _ _ _ _ rfl rfl rfl) ?_
   refine kM 1 rfl ?_
   refine AOps_case 211 _ rfl (fun hb57 => ?_) (fun hb57 => ?_)
   ·have h := iteT hb57 h
    refine AOps_skip 212 rfl rfl rfl ?_
    refine AOps_skip 213 rfl rfl rfl ?_
    refine kM 2 rfl ?_
    refine AOps_skip 216 rfl rfl rfl ?_
    refine AOps_skip 217 rfl rfl rfl ?_
    refine AOps_skip 218 rfl rfl rfl ?_
    refine AOps_skip 219 rfl rfl rfl ?_
    refine AOps_skip 220 rfl rfl rfl ?_
    refine AOps_skip 221 rfl rfl rfl ?_
    refine AOps_skip 222 rfl rfl rfl ?_
    refine AOps_skip 223 rfl rfl rfl ?_
    refine AOps_skip 224 rfl rfl rfl ?_
    refine AOps_skip 225 rfl rfl rfl ?_
    refine AOps_skip 226 rfl rfl rfl ?_
    refine AOps_skip 227 rfl rfl rfl ?_
    refine AOps_skip 228 rfl rfl rfl ?_
    refine AOps_skip 229 rfl rfl rfl ?_
    refine kN 1 rfl ?_
    cases h
    exact Weak_keep 0 hm [3, 4, 5, 230] [0] _ _ rfl rfl rfl
   have h := iteF hb57 h
   refine kM 1 rfl ?_
   refine AOps_q 213 _ rfl rfl rfl (QOp_neq _ _ _ _ _ _ _ rfl rfl rfl) ?_
   refine kM 2 rfl ?_
   refine AOps_case 215 _ rfl (fun hb58 => ?_) (fun hb58 => ?_)
   ·have h := iteT hb58 h
    refine AOps_skip 216 rfl rfl rfl ?_
    refine AOps_skip 217 rfl rfl rfl ?_
    refine AOps_skip 218 rfl rfl rfl ?_
    refine AOps_skip 219 rfl rfl rfl ?_
    refine AOps_skip 220 rfl rfl rfl ?_
    refine AOps_skip 221 rfl rfl rfl ?_
    refine AOps_skip 222 rfl rfl rfl ?_
    refine AOps_skip 223 rfl rfl rfl ?_
    refine AOps_skip 224 rfl rfl rfl ?_
    refine AOps_skip 225 rfl rfl rfl ?_
    refine AOps_skip 226 rfl rfl rfl ?_
    refine AOps_skip 227 rfl rfl rfl ?_
    refine AOps_skip 228 rfl rfl rfl ?_
    refine AOps_skip 229 rfl rfl rfl ?_
    refine kN 1 rfl ?_
    cases h
    exact Weak_keep 0 hm [3, 4, 5, 230] [0] _ _ rfl rfl rfl
   have h := iteF hb58 h
   refine kM 1 rfl ?_
   refine AOps_q 217 _ rfl rfl rfl (QOp_len_sl _ _ _ _ _ _ _ (intsD_length _) rfl rfl rfl rfl Try.underlying34 rfl) ?_
   refine AOps_q 218 _ rfl rfl rfl (QOp_gtr _ _ _ _ _ _ _ rfl rfl rfl) ?_
   refine kM 1 rfl ?_
   refine AOps_case 219 _ rfl (fun hb59 => ?_) (fun hb59 => ?_)
   ·have h := iteT hb59 h
    refine kM 2 rfl ?_
    refine AOps_q 222 _ rfl rfl rfl (QOp_len_sl _ _ _ _ _ _ _ (intsD_length _) rfl rfl rfl rfl Try.underlying34 rfl) ?_
    refine AOps_q 223 _ rfl rfl rfl (QOp_sub _ _ _ _ _ _ _ rfl rfl rfl) ?_
    obtain ⟨hc60, h⟩ := guardO h
    refine AOps_q 224 _ rfl rfl rfl (QOp_indexAddr_sl _ _ _ _ _ _ _ _ rfl Try.underlying34 Try.sizeOf2 hc60.1 (by rw [intsD_length]; exact hc60.2) rfl rfl) ?_
    refine AOps_q 225 _ rfl rfl rfl (QOp_load_pv _ _ _ _ _ rfl Try.isAgg2 rfl (intsD_get _ _ 0 (by omega))) ?_
    refine kM 1 rfl ?_
    refine AOps_q 227 _ rfl rfl rfl (QOp_len_sl _ _ _ _ _ _ _ (intsD_length _) rfl rfl rfl rfl Try.underlying34 rfl) ?_
    refine AOps_q 228 _ rfl rfl rfl (QOp_gtr _ _ _ _ _ _ _ rfl rfl rfl) ?_
    refine kN 2 rfl ?_
    cases h
    exact Weak_keep 0 hm [3, 4, 5, 230] [0] _ _ rfl rfl rfl
   have h := iteF hb59 h
   refine AOps_skip 220 rfl rfl rfl ?_
   refine AOps_skip 221 rfl rfl rfl ?_
   refine AOps_skip 222 rfl rfl rfl ?_
   refine AOps_skip 223 rfl rfl rfl ?_
   refine AOps_skip 224 rfl rfl rfl ?_
   refine AOps_skip 225 rfl rfl rfl ?_
   refine AOps_skip 226 rfl rfl rfl ?_
   refine AOps_skip 227 rfl rfl rfl ?_
   refine AOps_skip 228 rfl rfl rfl ?_
   refine kN 2 rfl ?_
   cases h
   exact Weak_keep 0 hm [3, 4, 5, 230] [0] _ _ rfl rfl rfl
  refine kI h rfl (fun h _ => ?_) (fun h _ => ?_)
  ·refine kR ?_
   refine kN 1 rfl ?_
   refine ACode_ret ?_
   cases h
   have h := hks63
   cases h
   exact ⟨_, _, fun r a w h => ⟨r, h⟩, _, _, [], _, (.cons (ResV_tmp _ _ rfl) .nil), rfl, rfl, rfl, rfl, rfl⟩
  refine ACode_skip ?_
  cases h
  exact ⟨_, rfl, Weak_keep 0 hm [3, 4, 5] [0] _ _ rfl rfl rfl⟩
 refine ACode_seq ?_
 refine kR ?_
 refine AOps_q 231 _ rfl rfl rfl (QOp_fieldAddr_ptr _ _ _ _ _ _ 1 _ _ rfl Try.underlying27 rfl _ Try.sizeOf2 rfl rfl rfl rfl) ?_
 refine AOps_q 232 _ rfl rfl rfl (QOp_load_ptr _ _ _ _ _ _ rfl Try.isAgg2 rfl rfl rfl) ?_
 refine AOps_q 233 _ rfl rfl rfl (QOp_neq _ _ _ _ _ _ _ rfl rfl rfl) ?_
 refine AOps_nil ?_
 refine kI h rfl (fun h _ => ?_) (fun h _ => ?_)
 ·refine kR ?_
  refine kN 1 rfl ?_
  refine ACode_ret ?_
  cases h
  exact ⟨_, _, fun r a w h => ⟨r, h⟩, _, _, [], _, (.cons (ResV_tmp _ _ rfl) .nil), rfl, rfl, rfl, rfl, rfl⟩
 refine ACode_skip ?_
 refine kR ?_
 refine AOps_q 235 _ rfl rfl rfl (QOp_loadN_ptr _ _ _ _ _ _ _ rfl Try.isAgg27 Try.sizeOf27 rfl rfl (colD_all _) (colD_length _)) ?_
 refine kM 1 rfl ?_
 refine AOps_q 237 _ rfl rfl rfl (QOp_sub _ _ _ _ _ _ _ rfl rfl rfl) ?_
 obtain ⟨r65, hr65, h⟩ := bindO h
 refine kC [] 238 (.tup [.d (.sl none (intsD (r65.1.getD []))), iV r65.2]) [.box (colD r3.1)] rfl Try.call11 rfl rfl (AC_frz rfl (frz_cons frz_nil) (impl_LongestPath_ac k r3.1 (w64 (1 - r3.2)) _ hr65)) rfl ?_
 refine kN 5 rfl ?_
 refine kR ?_
 refine kM 1 rfl ?_
 refine AOps_q 243 _ rfl rfl rfl (QOp_len_sl _ _ _ _ _ _ _ (intsD_length _) rfl rfl rfl rfl Try.underlying34 rfl) ?_
 refine AOps_q 244 _ rfl rfl rfl (QOp_add _ _ _ _ _ _ _ rfl rfl rfl) ?_
 refine kM 1 rfl ?_
 refine AOps_q 246 _ rfl rfl rfl (QOp_len_sl _ _ _ _ _ _ _ (intsD_length _) rfl rfl rfl rfl Try.underlying34 rfl) ?_
 refine AOps_q 247 _ rfl rfl rfl (QOp_add _ _ _ _ _ _ _ rfl rfl rfl) ?_
 obtain ⟨r66, hr66, h⟩ := bindO h
 refine kC [] 248 (.tup [iV r66.1, iV r66.2]) [.box (colD r3.1)] rfl Try.call20 rfl rfl (impl_PathNumber_ac (w64 (((r4.1.getD []).length : Int) + 1)) (w64 (((r65.1.getD []).length : Int) + 1)) _ hr66) rfl ?_
 refine kN 5 rfl ?_
 refine kL (fun s69 => [(2, bV s69)]) (fun s69 => []) h (fun s69 h => ?_) (fun s69 h => ?_)
 ·refine (ACode_region ?_)
  refine kM 1 rfl ?_
  refine AOps_q 252 _ rfl rfl rfl (QOp_eql _ _ _ _ _ _ _ rfl rfl rfl) ?_
  refine kM 1 rfl ?_
  refine AOps_case 253 _ rfl (fun hb67 => ?_) (fun hb67 => ?_)
  ·have h := iteT hb67 h
   refine kM 1 rfl ?_
   refine AOps_q 255 _ rfl rfl rfl (QOp_eql _ _ _ _ _ _ _ rfl rfl rfl) ?_
   refine kM 2 rfl ?_
   refine AOps_case 257 _ rfl (fun hb68 => ?_) (fun hb68 => ?_)
   ·have h := iteT hb68 h
    refine AOps_q 258 _ rfl rfl rfl (QOp_fieldAddr_ptr _ _ _ _ _ _ 0 _ _ rfl Try.underlying27 rfl _ Try.sizeOf2 rfl rfl rfl rfl) ?_
    refine AOps_q 259 _ rfl rfl rfl (QOp_load_ptr _ _ _ _ _ _ rfl Try.isAgg2 rfl rfl rfl) ?_
    refine kM 1 rfl ?_
    refine AOps_q 261 _ rfl rfl rfl (QOp_lss _ _ _ _ _ _ _ rfl rfl rfl) ?_
    refine kN 2 rfl ?_
    cases h
    exact Weak_keep 0 hm [2] [] _ _ rfl rfl rfl
   have h := iteF hb68 h
   refine AOps_skip 258 rfl rfl rfl ?_
   refine AOps_skip 259 rfl rfl rfl ?_
   refine AOps_skip 260 rfl rfl rfl ?_
   refine AOps_skip 261 rfl rfl rfl ?_
   refine kN 2 rfl ?_
   cases h
   exact Weak_keep 0 hm [2] [] _ _ rfl rfl rfl
  have h := iteF hb67 h
  refine AOps_skip 254 rfl rfl rfl ?_
  refine AOps_skip 255 rfl rfl rfl ?_
  refine kM 2 rfl ?_
  refine AOps_skip 258 rfl rfl rfl ?_
  refine AOps_skip 259 rfl rfl rfl ?_
  refine AOps_skip 260 rfl rfl rfl ?_
  refine AOps_skip 261 rfl rfl rfl ?_
  refine kN 2 rfl ?_
  cases h
  exact Weak_keep 0 hm [2] [] _ _ rfl rfl rfl
 refine ACode_ret ?_
 cases h
 exact ⟨_, _, fun r a w h => ⟨r, h⟩, _, _, [], _, (.cons (ResV_tmp _ _ rfl) .nil), rfl, rfl, rfl, rfl, rfl⟩

end Go.Proofs.Ytghhnpdhehjlaaa
