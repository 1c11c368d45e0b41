/- Plain function of impl's moved and that the program computes it: a struct whose list is the frame's own and is written to. No conditions. -/
import Derived.Test.YtghhnpdhehjlaaaGreatAb28
import Derived.Test.YtghhnpdhehjlaaaGreatCloV
import Derived.Test.YtghhnpdhehjlaaaGreatGenM
set_option linter.unusedVariables false
set_option linter.unusedSimpArgs false
namespace Go.Proofs.YtghhnpdhehjlaaaGreat
open Go Go.RowKit Ab

def impl_position_moved (k : Nat) (p0 : Pos) (p1 : Int) : Option (Pos) :=
  (impl_position_mover k p0).bind fun m => (if 0 ≤ p1 ∧ p1 < (p0.l.length : Int) then (cloneA p0.l).bind fun l => some (⟨p0.n, l.set p1.toNat m⟩ : Pos) else none)

theorem posD_take (p : Pos) : ((posD p).drop 0).take 2 = posD p := rfl

set_option maxRecDepth 100000 in
theorem impl_position_moved_ac (k : Nat) (p0 : Pos) (p1 : Int) (r : Pos) (h : impl_position_moved k p0 p1 = some r) : AC Tryz.prog 104 [.d (.agg (posD p0)), iV p1] [] (fun res H' => res = [.d (.agg (posD r))] ∧ H' = []) := by
  unfold impl_position_moved at h
  obtain ⟨m, hmo, h⟩ := bindO h
  obtain ⟨hc, h⟩ := guardO h
  obtain ⟨l, hl, h⟩ := bindO h
  cases h
  have hb1 : p0.l.isEmpty = false := by
    cases hp : p0.l with
    | nil => rw [hp] at hc; simp at hc; omega
    | cons a l => rfl
  have hll : l = p0.l := by
    unfold cloneA at hl
    split at hl
    · cases hl; rfl
    · cases hl
  refine AC_of_body true Tryz.func104 rfl Tryz.ntmps104 (rvs := [.cell 4 96]) rfl rfl (fun G hG => ?_)
  have hm : G.H.length = 0 := by rw [hG]; rfl
  have hz : zeroG G.H = true := by rw [hG]; rfl
  refine kR ?_
  refine AOps_boxI 2 _ _ (.agg (posD p0)) (posD p0) rfl (posD_one _) rfl rfl rfl rfl rfl ?_
  refine AOps_alloc 4 _ _ ([iD 0, .sl (some true) []]) (zero_of Tryz.typeInfo96 rfl) (by rfl) rfl rfl rfl rfl ?_
  refine AOps_nil ?_
  refine ACode_cutN (fun G' b cap => Named G' 1 0 b cap (intsD l).length) (fun b cap => [(1, iV p1), (2, .d (.pv (posD p0) 0)), (4, .ptr 0 0), (5, .ptr 2 0)]) (fun b cap => [.box [iD 0, .sl (some true) []], .vec 0 (intsD l), .box [iD p0.n, hdr b (intsD l).length cap]]) ?_ (fun hrest => ?_)
  · intro G' b cap hn
    refine ACode_seq (ACode_last (l := [_, _, _, _, _, _]) mixed (by kernel_rfl) (by kernel_rfl) ?_)
    refine AQ_q 12 _ rfl rfl rfl (QOp_fieldAddr_ptr _ _ _ _ _ _ 1 _ _ rfl Tryz.underlying96 rfl _ Tryz.sizeOf27 rfl rfl rfl rfl) ?_
    refine AQ_q 13 _ rfl rfl rfl (QOp_load_ptr _ _ _ _ _ _ rfl Tryz.isAgg27 rfl rfl rfl) ?_
    refine AQ_weak (Rel_unname hn 13 rfl) ?_
    refine kQ 1 rfl ?_
    refine AQ_q 15 _ rfl rfl rfl (QOp_loadN_pv _ _ _ _ _ _ rfl Tryz.isAgg96 Tryz.sizeOf96 rfl (posD_all _) (posD_length _)) ?_
    refine AQ_call 16 _ _ _ _ _ _ _ _ _ rfl rfl rfl rfl rfl rfl rfl Tryz.call151 rfl rfl rfl (impl_position_mover_ac k p0 _ hmo) ?_
    refine AQ_q 17 _ rfl rfl rfl (QOp_indexAddr_vec _ _ _ _ _ _ _ _ _ rfl Tryz.underlying27 Tryz.sizeOf2 hc.1 (by rw [intsD_length, hll]; exact hc.2) rfl rfl rfl) ?_
    refine AQ_nil ?_
    refine AOps_store_eptr _ _ _ _ _ _ (intsD l) _ rfl rfl rfl rfl rfl rfl rfl Tryz.sizeOf2 (by rw [intsD_length, hll]; omega) ?_
    rw [intsD_set]
    refine AOps_nil ?_
    refine kR ?_
    refine AOps_weak (Weak_frzC (cs := intsD (l.set p1.toNat m)) (b := b) (cap := cap) (by rw [show (intsD (l.set p1.toNat m)).length = (intsD l).length by simp [intsD]]; exact hn) 2 1 rfl (by rw [show (intsD (l.set p1.toNat m)).length = (intsD l).length by simp [intsD]]; rfl) rfl) ?_
    refine AOps_q 18 _ rfl rfl rfl (QOp_loadN_ptr _ _ _ (posD ⟨p0.n, l.set p1.toNat m⟩) _ _ _ rfl Tryz.isAgg96 Tryz.sizeOf96 rfl rfl (posD_all _) (posD_length _)) ?_
    refine AOps_store _ _ _ _ _ _ (posD _) _ _ rfl rfl rfl rfl rfl rfl rfl (posD_one _) (by rw [posD_length]; exact Tryz.sizeOf96) (by show (2 : Nat) ≤ 2; decide) rfl ?_
    refine AOps_nil ?_
    refine ACode_ret ?_
    exact ⟨_, _, fun r a w h => ⟨r, h⟩, _, _, [], _, (.cons (ResV_agg _ _ _ _ _ _ Tryz.isAgg96 Tryz.sizeOf96 rfl rfl (posD_take _) (posD_length _)) .nil), rfl, rfl, rfl, rfl, rfl⟩
  refine ACode_anyLastN (l := [_, _, _, _, _, _, _]) mixed (by kernel_rfl) ?_
  refine AAnyP_q 0 6 _ rfl (by kernel_rfl) rfl rfl rfl (QOp_fieldAddr_pv _ _ _ _ _ 0 _ _ rfl Tryz.underlying96 rfl _ Tryz.sizeOf2 rfl rfl) ?_
  refine AAnyP_q 1 7 _ rfl (by kernel_rfl) rfl rfl rfl (QOp_load_pv _ _ _ _ _ rfl Tryz.isAgg2 rfl rfl) ?_
  refine AAnyP_q 2 8 _ rfl (by kernel_rfl) rfl rfl rfl (QOp_fieldAddr_pv _ _ _ _ _ 1 _ _ rfl Tryz.underlying96 rfl _ Tryz.sizeOf27 rfl rfl) ?_
  refine AAnyP_q 3 9 _ rfl (by kernel_rfl) rfl rfl rfl (QOp_load_pv _ _ _ _ _ rfl Tryz.isAgg27 rfl rfl) ?_
  refine AAnyP_all [4, 6] (by kernel_rfl) rfl (allc ?_ (allc ?_ (fun _ h => nomatch h)))
  · refine AStepP_call 4 10 _ _ _ _ _ _ _ _ _ rfl rfl rfl rfl rfl rfl rfl rfl Tryz.call109 rfl rfl rfl (cloneA_ac p0.l _ hb1 hl) ?_
    rintro _ _ ⟨rfl, rfl⟩
    refine ⟨(allc (intsD_flat _) (fun _ h => nomatch h)), (allc trivial (fun _ h => nomatch h)), AAnyP_as 10 (v' := .vec 1 0) (H' := [.box ([iD 0, .sl (some true) []]), .vec 0 (intsD l)]) rfl rfl ?_⟩
    refine AAnyP_name 10 1 0 (intsD l) rfl rfl (fun G' b cap hGH hback hn => ?_)
    have hm' : G'.H.length = 2 := by rw [hGH]; rfl
    refine AAnyP_q 5 11 _ rfl (by kernel_rfl) rfl rfl rfl (QOp_build _ _ [_, _] [0, 1] [iD p0.n, hdr b (intsD l).length cap] _ [iD 0, .sl (some true) []] [iD p0.n, hdr b (intsD l).length cap] [(0, 1), (1, 1)] rfl rfl Tryz.underlying96 (zero_of Tryz.typeInfo96 rfl) (fun w => by simp [Tryz.sizeOf2, Tryz.sizeOf27]) rfl (by rfl) (by rfl) (allc (ok1 rfl) (allc (ok1 rfl) (fun _ h => nomatch h)))) ?_
    refine AAnyP_all [6] (by kernel_rfl) rfl (allc ?_ (fun _ h => nomatch h))
    refine AStepP_of 6 rfl rfl (Bl_alloc _ _ (zero_of Tryz.typeInfo96 rfl) rfl) ?_
    refine AOps_alloc 5 _ _ ([iD 0, .sl (some true) []]) (zero_of Tryz.typeInfo96 rfl) (by rfl) rfl rfl rfl rfl ?_
    refine AOps_nil ?_
    refine AAnyP_done (by kernel_rfl) (fun r a w hr => ⟨G', _, _, r, hback, hr, ?_⟩)
    refine AOps_store _ _ _ _ _ _ [iD p0.n, hdr b (intsD l).length cap] _ _ rfl rfl rfl rfl rfl rfl rfl (allc rfl (allc rfl (fun _ h => nomatch h))) Tryz.sizeOf96 (by show (2 : Nat) ≤ 2; decide) rfl ?_
    refine AOps_nil ?_
    exact ACode_weak (Weak_keep 2 hm' [1, 2, 4, 5] [2] _ _ rfl rfl rfl) (hrest G' b cap hn)
  refine AStepP_of 6 rfl rfl (Bl_alloc _ _ (zero_of Tryz.typeInfo96 rfl) rfl) ?_
  refine AOps_alloc 5 _ _ ([iD 0, .sl (some true) []]) (zero_of Tryz.typeInfo96 rfl) (by rfl) rfl rfl rfl rfl ?_
  refine AOps_nil ?_
  refine AAnyP_all [4] (by kernel_rfl) rfl (allc ?_ (fun _ h => nomatch h))
  refine AStepP_call 4 10 _ _ _ _ _ _ _ _ _ rfl rfl rfl rfl rfl rfl rfl rfl Tryz.call109 rfl rfl rfl (cloneA_ac p0.l _ hb1 hl) ?_
  rintro _ _ ⟨rfl, rfl⟩
  refine ⟨(allc (intsD_flat _) (fun _ h => nomatch h)), (allc trivial (fun _ h => nomatch h)), AAnyP_as 10 (v' := .vec 2 0) (H' := [.box ([iD 0, .sl (some true) []]), .box ([iD 0, .sl (some true) []]), .vec 0 (intsD l)]) rfl rfl ?_⟩
  refine AAnyP_weak (Weak_keep 0 hm [1, 2, 4, 5, 7, 10] [0, 2, 1] _ _ rfl rfl rfl) ?_
  refine AAnyP_name 10 1 0 (intsD l) rfl rfl (fun G' b cap hGH hback hn => ?_)
  have hm' : G'.H.length = 3 := by rw [hGH]; rfl
  refine AAnyP_q 5 11 _ rfl (by kernel_rfl) rfl rfl rfl (QOp_build _ _ [_, _] [0, 1] [iD p0.n, hdr b (intsD l).length cap] _ [iD 0, .sl (some true) []] [iD p0.n, hdr b (intsD l).length cap] [(0, 1), (1, 1)] rfl rfl Tryz.underlying96 (zero_of Tryz.typeInfo96 rfl) (fun w => by simp [Tryz.sizeOf2, Tryz.sizeOf27]) rfl (by rfl) (by rfl) (allc (ok1 rfl) (allc (ok1 rfl) (fun _ h => nomatch h)))) ?_
  refine AAnyP_done (by kernel_rfl) (fun r a w hr => ⟨G', _, _, r, hback, hr, ?_⟩)
  refine AOps_store _ _ _ _ _ _ [iD p0.n, hdr b (intsD l).length cap] _ _ rfl rfl rfl rfl rfl rfl rfl (allc rfl (allc rfl (fun _ h => nomatch h))) Tryz.sizeOf96 (by show (2 : Nat) ≤ 2; decide) rfl ?_
  refine AOps_nil ?_
  exact ACode_weak (Weak_keep 3 hm' [1, 2, 4, 5] [] _ _ rfl rfl rfl) (hrest G' b cap hn)
end Go.Proofs.YtghhnpdhehjlaaaGreat
