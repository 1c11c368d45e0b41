/- Plain functions of the program and that the program computes them: printed by the own tool gen.py. No conditions. -/
import Derived.Test.YtghhnpdhehjlaaaGen36c
set_option linter.unusedVariables false
set_option linter.unusedSimpArgs false
namespace Go.Proofs.Ytghhnpdhehjlaaa
open Go Go.RowKit Ab

-- loop.example/g01362/impl.CommonNeighbours$2
def impl_CommonNeighbours_c2 (p0 : Int) (p1 : Col) (p2 : Int) (p3 : Int) (p4 : Int) : Option (Bool) :=
 ((impl_Colouring_joins p1 p2 p0 p3).bind fun r1 => (if r1 then (impl_Colouring_joins p1 p4 p0 p3).bind fun r3 => some r3 else some false) : Option (Bool)).bind fun s4 => some s4
set_option maxRecDepth 100000 in
theorem impl_CommonNeighbours_c2_ac (p0 : Int) (p1 : Col) (p2 : Int) (p3 : Int) (p4 : Int) (r : Bool) (h : impl_CommonNeighbours_c2 p0 p1 p2 p3 p4 = some r) : AC Try.prog 72 [iV p0, .d (.pv (colD p1) 0), .d (.pv ([iD p2]) 0), .d (.pv ([iD p3]) 0), .d (.pv ([iD p4]) 0)] [] (fun res H' => res = [bV r] ∧ H' = []) := by
 refine AC_of_body true Try.func72 rfl Try.ntmps72 (rvs := [.tmp 6]) rfl rfl (fun G hG => ?_)
 have hm : G.H.length = 0 := by rw [hG]; rfl
 have hz : zeroG G.H = true := by rw [hG]; rfl
 unfold impl_CommonNeighbours_c2 at h
 refine kR ?_
 refine kN 1 rfl ?_
 refine kB (fun s4 => [(6, bV s4)]) (fun s4 => []) h (fun s4 h => ?_) (fun s4 h => ?_)
 ·refine (ACode_region ?_)
  refine AOps_q 7 _ rfl rfl rfl (QOp_load_pv _ _ _ _ _ rfl Try.isAgg2 rfl rfl) ?_
  refine kM 1 rfl ?_
  refine AOps_q 9 _ rfl rfl rfl (QOp_load_pv _ _ _ _ _ rfl Try.isAgg2 rfl rfl) ?_
  obtain ⟨r1, hr1, h⟩ := bindO h
  refine kC [] 10 (bV r1) [] rfl Try.call73 rfl rfl (impl_Colouring_joins_ac p1 p2 p0 p3 _ hr1) rfl ?_
  refine kM 1 rfl ?_
  refine AOps_case 11 _ rfl (fun hb2 => ?_) (fun hb2 => ?_)
  ·have h := iteT hb2 h
   refine AOps_q 12 _ rfl rfl rfl (QOp_load_pv _ _ _ _ _ rfl Try.isAgg2 rfl rfl) ?_
   refine kM 1 rfl ?_
   refine AOps_q 14 _ rfl rfl rfl (QOp_load_pv _ _ _ _ _ rfl Try.isAgg2 rfl rfl) ?_
   obtain ⟨r3, hr3, h⟩ := bindO h
   refine kC [] 15 (bV r3) [] rfl Try.call73 rfl rfl (impl_Colouring_joins_ac p1 p4 p0 p3 _ hr3) rfl ?_
   refine kN 2 rfl ?_
   cases h
   exact Weak_keep 0 hm [6] [] _ _ rfl rfl rfl
  have h := iteF hb2 h
  refine AOps_skip 12 rfl rfl rfl ?_
  refine AOps_skip 13 rfl rfl rfl ?_
  refine AOps_skip 14 rfl rfl rfl ?_
  refine AOps_skip 15 rfl rfl rfl ?_
  refine kN 2 rfl ?_
  cases h
  exact Weak_keep 0 hm [6] [] _ _ rfl rfl rfl
 refine ACode_ret ?_
 cases h
 exact ⟨_, _, fun r a w h => ⟨r, h⟩, _, _, [], _, (.cons (ResV_tmp _ _ rfl) .nil), rfl, rfl, rfl, rfl, rfl⟩

-- loop.example/g01362/impl.CommonNeighbours
def impl_CommonNeighbours (k : Nat) (p0 : Col) (p1 : Int) (p2 : Int) (p3 : Int) : Option (Option (List Int) × Int) :=
 (impl_Colouring_code k p0 (some (impl_CommonNeighbours_c1 p0 p1 p2 p3))).bind fun r1 => (if !decide (r1 = 0) then some (none, r1) else (impl_Colouring_that k p0 (fun a0 => impl_CommonNeighbours_c2 a0 p0 p1 p3 p2)).bind fun r3 => some (some r3, 0))
set_option maxRecDepth 100000 in
theorem impl_CommonNeighbours_ac (k : Nat) (p0 : Col) (p1 : Int) (p2 : Int) (p3 : Int) (r : Option (List Int) × Int) (h : impl_CommonNeighbours k p0 p1 p2 p3 = some r) : AC Try.prog 34 [.d (.agg (colD p0)), iV p1, iV p2, iV p3] [] (fun res H' => res = [ownA 0 (r.1.map intsD), iV r.2] ∧ H' = [] ++ ownH (r.1.map intsD)) := by
 refine AC_of_body false Try.func34 rfl Try.ntmps34 (rvs := [.tmp 8, .tmp 9]) rfl rfl (fun G hG => ?_)
 have hm : G.H.length = 0 := by rw [hG]; rfl
 have hz : zeroG G.H = true := by rw [hG]; rfl
 unfold impl_CommonNeighbours at h
 refine kR ?_
 refine AOps_boxI 4 _ _ (.agg (colD p0)) (colD p0) rfl (colD_one _) rfl rfl rfl rfl rfl ?_
 refine AOps_boxI 5 _ _ (iD p1) _ rfl (fun c hc => by cases hc with | head => rfl | tail _ h => cases h) rfl rfl rfl rfl rfl ?_
 refine AOps_boxI 6 _ _ (iD p2) _ rfl (fun c hc => by cases hc with | head => rfl | tail _ h => cases h) rfl rfl rfl rfl rfl ?_
 refine AOps_boxI 7 _ _ (iD p3) _ rfl (fun c hc => by cases hc with | head => rfl | tail _ h => cases h) rfl rfl rfl rfl rfl ?_
 refine kN 2 rfl ?_
 refine ACode_seq ?_
 refine kR ?_
 refine AOps_q 11 _ rfl rfl rfl (QOp_makeFuncD _ _ _ _ rfl rfl rfl) ?_
 obtain ⟨r1, hr1, h⟩ := bindO h
 refine kC [] 12 (iV r1) [] rfl Try.call64 rfl rfl (impl_Colouring_code_ac k p0 (some (impl_CommonNeighbours_c1 p0 p1 p2 p3)) 69 ([.pv (colD p0) 0, .pv ([iD p1]) 0, .pv ([iD p2]) 0, .pv ([iD p3]) 0]) Try.call69 (fun r h => by cases h; exact impl_CommonNeighbours_c1_ac p0 p1 p2 p3) _ hr1) rfl ?_
 refine kN 1 rfl ?_
 refine kR ?_
 refine kM 1 rfl ?_
 refine AOps_q 14 _ rfl rfl rfl (QOp_neq _ _ _ _ _ _ _ rfl rfl rfl) ?_
 refine AOps_nil ?_
 refine kI h rfl (fun h _ => ?_) (fun h _ => ?_)
 ·refine kR ?_
  refine kN 3 rfl ?_
  refine ACode_ret ?_
  cases h
  exact ⟨_, _, fun r a w h => ⟨r, h⟩, _, _, [], _, (.cons (ResV_tmp _ _ rfl) (.cons (ResV_tmp _ _ rfl) .nil)), rfl, rfl, rfl, rfl, rfl⟩
 refine ACode_skip ?_
 refine kR ?_
 refine AOps_q 16 _ rfl rfl rfl (QOp_makeFuncD _ _ _ _ rfl rfl rfl) ?_
 obtain ⟨r3, hr3, h⟩ := bindO h
 refine kC [] 17 (.vec 0 0) [.vec 0 (intsD r3)] rfl Try.call71 rfl rfl (impl_Colouring_that_ac k p0 (fun a0 => impl_CommonNeighbours_c2 a0 p0 p1 p3 p2) 72 ([.pv (colD p0) 0, .pv ([iD p1]) 0, .pv ([iD p3]) 0, .pv ([iD p2]) 0]) Try.call72 (fun a0 r h => impl_CommonNeighbours_c2_ac a0 p0 p1 p3 p2 r h) _ hr3) rfl ?_
 refine kN 2 rfl ?_
 refine ACode_ret ?_
 cases h
 exact ⟨_, _, Weak_reset 0 hm hz [8, 9] _ _ rfl rfl, _, _, [0], _, (.cons (ResV_tmp _ _ rfl) (.cons (ResV_tmp _ _ rfl) .nil)), rfl, rfl, rfl, rfl, rfl⟩

-- loop.example/g01362/impl.NeighboursOf$1
def impl_NeighboursOf_c1 (p0 : Col) (p1 : Int) (p2 : Int) : Bool :=
 letO (if (impl_Colouring_has p0 p1) then (impl_Colouring_hasColour p0 p2) else false) fun (s4 : Bool) => s4
set_option maxRecDepth 100000 in
theorem impl_NeighboursOf_c1_ac (p0 : Col) (p1 : Int) (p2 : Int) : AC Try.prog 74 [.d (.pv (colD p0) 0), .d (.pv ([iD p1]) 0), .d (.pv ([iD p2]) 0)] [] (fun res H' => res = [bV (impl_NeighboursOf_c1 p0 p1 p2)] ∧ H' = []) := by
 refine AC_of_body true Try.func74 rfl Try.ntmps74 (rvs := [.tmp 3]) rfl rfl (fun G hG => ?_)
 have hm : G.H.length = 0 := by rw [hG]; rfl
 have hz : zeroG G.H = true := by rw [hG]; rfl
 obtain ⟨r, h⟩ : ∃ r, impl_NeighboursOf_c1 p0 p1 p2 = r := ⟨_, rfl⟩
 rw [h]
 unfold impl_NeighboursOf_c1 at h
 refine kR ?_
 refine kN 1 rfl ?_
 refine kL (fun s4 => [(3, bV s4)]) (fun s4 => []) h (fun s4 h => ?_) (fun s4 h => ?_)
 ·refine (ACode_region ?_)
  refine AOps_q 4 _ rfl rfl rfl (QOp_load_pv _ _ _ _ _ rfl Try.isAgg2 rfl rfl) ?_
  refine kC [] 5 (bV (impl_Colouring_has p0 p1)) [] rfl Try.call75 rfl rfl (impl_Colouring_has_ac p0 p1) rfl ?_
  refine kM 1 rfl ?_
  refine AOps_case 6 _ rfl (fun hb2 => ?_) (fun hb2 => ?_)
  ·have h := iteT hb2 h
   refine AOps_q 7 _ rfl rfl rfl (QOp_load_pv _ _ _ _ _ rfl Try.isAgg2 rfl rfl) ?_
   refine kC [] 8 (bV (impl_Colouring_hasColour p0 p2)) [] rfl Try.call70 rfl rfl (impl_Colouring_hasColour_ac p0 p2) rfl ?_
   refine kN 2 rfl ?_
   cases h
   exact Weak_keep 0 hm [3] [] _ _ rfl rfl rfl
  have h := iteF hb2 h
  refine AOps_skip 7 rfl rfl rfl ?_
  refine AOps_skip 8 rfl rfl rfl ?_
  refine kN 2 rfl ?_
  cases h
  exact Weak_keep 0 hm [3] [] _ _ rfl rfl rfl
 refine ACode_ret ?_
 cases h
 exact ⟨_, _, fun r a w h => ⟨r, h⟩, _, _, [], _, (.cons (ResV_tmp _ _ rfl) .nil), rfl, rfl, rfl, rfl, rfl⟩

-- loop.example/g01362/impl.NeighboursOf
def impl_NeighboursOf (k : Nat) (p0 : Col) (p1 : Int) (p2 : Int) : Option (Option (List Int) × Int) :=
 (impl_Colouring_code k p0 (some (impl_NeighboursOf_c1 p0 p1 p2))).bind fun r1 => (if !decide (r1 = 0) then some (none, r1) else (impl_Colouring_neighbours k p0 p1 p2).bind fun r3 => some (some r3, 0))
set_option maxRecDepth 100000 in
theorem impl_NeighboursOf_ac (k : Nat) (p0 : Col) (p1 : Int) (p2 : Int) (r : Option (List Int) × Int) (h : impl_NeighboursOf k p0 p1 p2 = some r) : AC Try.prog 35 [.d (.agg (colD p0)), iV p1, iV p2] [] (fun res H' => res = [ownA 0 (r.1.map intsD), iV r.2] ∧ H' = [] ++ ownH (r.1.map intsD)) := by
 refine AC_of_body false Try.func35 rfl Try.ntmps35 (rvs := [.tmp 6, .tmp 7]) rfl rfl (fun G hG => ?_)
 have hm : G.H.length = 0 := by rw [hG]; rfl
 have hz : zeroG G.H = true := by rw [hG]; rfl
 unfold impl_NeighboursOf at h
 refine kR ?_
 refine AOps_boxI 3 _ _ (.agg (colD p0)) (colD p0) rfl (colD_one _) rfl rfl rfl rfl rfl ?_
 refine AOps_boxI 4 _ _ (iD p1) _ rfl (fun c hc => by cases hc with | head => rfl | tail _ h => cases h) rfl rfl rfl rfl rfl ?_
 refine AOps_boxI 5 _ _ (iD p2) _ rfl (fun c hc => by cases hc with | head => rfl | tail _ h => cases h) rfl rfl rfl rfl rfl ?_
 refine kN 2 rfl ?_
 refine ACode_seq ?_
 refine kR ?_
 refine AOps_q 9 _ rfl rfl rfl (QOp_makeFuncD _ _ _ _ rfl rfl rfl) ?_
 obtain ⟨r1, hr1, h⟩ := bindO h
 refine kC [] 10 (iV r1) [] rfl Try.call64 rfl rfl (impl_Colouring_code_ac k p0 (some (impl_NeighboursOf_c1 p0 p1 p2)) 74 ([.pv (colD p0) 0, .pv ([iD p1]) 0, .pv ([iD p2]) 0]) Try.call74 (fun r h => by cases h; exact impl_NeighboursOf_c1_ac p0 p1 p2) _ hr1) rfl ?_
 refine kN 1 rfl ?_
 refine kR ?_
 refine kM 1 rfl ?_
 refine AOps_q 12 _ rfl rfl rfl (QOp_neq _ _ _ _ _ _ _ rfl rfl rfl) ?_
 refine AOps_nil ?_
 refine kI h rfl (fun h _ => ?_) (fun h _ => ?_)
 ·refine kR ?_
  refine kN 3 rfl ?_
  refine ACode_ret ?_
  cases h
  exact ⟨_, _, fun r a w h => ⟨r, h⟩, _, _, [], _, (.cons (ResV_tmp _ _ rfl) (.cons (ResV_tmp _ _ rfl) .nil)), rfl, rfl, rfl, rfl, rfl⟩
 refine ACode_skip ?_
 refine kR ?_
 refine AOps_q 14 _ rfl rfl rfl (QOp_load_pv _ _ _ _ _ rfl Try.isAgg2 rfl rfl) ?_
 refine AOps_q 15 _ rfl rfl rfl (QOp_load_pv _ _ _ _ _ rfl Try.isAgg2 rfl rfl) ?_
 obtain ⟨r3, hr3, h⟩ := bindO h
 refine kC [] 16 (.vec 0 0) [.vec 0 (intsD r3)] rfl Try.call76 rfl rfl (impl_Colouring_neighbours_ac k p0 p1 p2 _ hr3) rfl ?_
 refine kN 2 rfl ?_
 refine ACode_ret ?_
 cases h
 exact ⟨_, _, Weak_reset 0 hm hz [6, 7] _ _ rfl rfl, _, _, [0], _, (.cons (ResV_tmp _ _ rfl) (.cons (ResV_tmp _ _ rfl) .nil)), rfl, rfl, rfl, rfl, rfl⟩

-- loop.example/g01362/impl.ColourOf$1
def impl_ColourOf_c1 (p0 : Col) (p1 : Int) (p2 : Int) : Bool :=
 (impl_Colouring_hasTwo p0 p1 p2)
set_option maxRecDepth 100000 in
theorem impl_ColourOf_c1_ac (p0 : Col) (p1 : Int) (p2 : Int) : AC Try.prog 65 [.d (.pv (colD p0) 0), .d (.pv ([iD p1]) 0), .d (.pv ([iD p2]) 0)] [] (fun res H' => res = [bV (impl_ColourOf_c1 p0 p1 p2)] ∧ H' = []) := by
 refine AC_of_body true Try.func65 rfl Try.ntmps65 (rvs := [.tmp 3]) rfl rfl (fun G hG => ?_)
 have hm : G.H.length = 0 := by rw [hG]; rfl
 have hz : zeroG G.H = true := by rw [hG]; rfl
 obtain ⟨r, h⟩ : ∃ r, impl_ColourOf_c1 p0 p1 p2 = r := ⟨_, rfl⟩
 rw [h]
 unfold impl_ColourOf_c1 at h
 refine kR ?_
 refine kN 1 rfl ?_
 refine kR ?_
 refine AOps_q 4 _ rfl rfl rfl (QOp_load_pv _ _ _ _ _ rfl Try.isAgg2 rfl rfl) ?_
 refine AOps_q 5 _ rfl rfl rfl (QOp_load_pv _ _ _ _ _ rfl Try.isAgg2 rfl rfl) ?_
 refine kC [] 6 (bV (impl_Colouring_hasTwo p0 p1 p2)) [] rfl Try.call66 rfl rfl (impl_Colouring_hasTwo_ac p0 p1 p2) rfl ?_
 refine kN 1 rfl ?_
 refine ACode_ret ?_
 cases h
 exact ⟨_, _, fun r a w h => ⟨r, h⟩, _, _, [], _, (.cons (ResV_tmp _ _ rfl) .nil), rfl, rfl, rfl, rfl, rfl⟩

-- loop.example/g01362/impl.ColourOf
def impl_ColourOf (k : Nat) (p0 : Col) (p1 : Int) (p2 : Int) : Option (Int × Int) :=
 (impl_Colouring_code k p0 (some (impl_ColourOf_c1 p0 p1 p2))).bind fun r1 => (if !decide (r1 = 0) then some (0, r1) else (impl_Colouring_at p0 p1 p2).bind fun r3 => some (r3, 0))
set_option maxRecDepth 100000 in
theorem impl_ColourOf_ac (k : Nat) (p0 : Col) (p1 : Int) (p2 : Int) (r : Int × Int) (h : impl_ColourOf k p0 p1 p2 = some r) : AC Try.prog 22 [.d (.agg (colD p0)), iV p1, iV p2] [] (fun res H' => res = [iV r.1, iV r.2] ∧ H' = []) := by
 refine AC_of_body true Try.func22 rfl Try.ntmps22 (rvs := [.tmp 6, .tmp 7]) rfl rfl (fun G hG => ?_)
 have hm : G.H.length = 0 := by rw [hG]; rfl
 have hz : zeroG G.H = true := by rw [hG]; rfl
 unfold impl_ColourOf at h
 refine kR ?_
 refine AOps_boxI 3 _ _ (.agg (colD p0)) (colD p0) rfl (colD_one _) rfl rfl rfl rfl rfl ?_
 refine AOps_boxI 4 _ _ (iD p1) _ rfl (fun c hc => by cases hc with | head => rfl | tail _ h => cases h) rfl rfl rfl rfl rfl ?_
 refine AOps_boxI 5 _ _ (iD p2) _ rfl (fun c hc => by cases hc with | head => rfl | tail _ h => cases h) rfl rfl rfl rfl rfl ?_
 refine kN 2 rfl ?_
 refine ACode_seq ?_
 refine kR ?_
 refine AOps_q 9 _ rfl rfl rfl (QOp_makeFuncD _ _ _ _ rfl rfl rfl) ?_
 obtain ⟨r1, hr1, h⟩ := bindO h
 refine kC [] 10 (iV r1) [] rfl Try.call64 rfl rfl (impl_Colouring_code_ac k p0 (some (impl_ColourOf_c1 p0 p1 p2)) 65 ([.pv (colD p0) 0, .pv ([iD p1]) 0, .pv ([iD p2]) 0]) Try.call65 (fun r h => by cases h; exact impl_ColourOf_c1_ac p0 p1 p2) _ hr1) rfl ?_
 refine kN 1 rfl ?_
 refine kR ?_
 refine kM 1 rfl ?_
 refine AOps_q 12 _ rfl rfl rfl (QOp_neq _ _ _ _ _ _ _ rfl rfl rfl) ?_
 refine AOps_nil ?_
 refine kI h rfl (fun h _ => ?_) (fun h _ => ?_)
 ·refine kR ?_
  refine kN 3 rfl ?_
  refine ACode_ret ?_
  cases h
  exact ⟨_, _, fun r a w h => ⟨r, h⟩, _, _, [], _, (.cons (ResV_tmp _ _ rfl) (.cons (ResV_tmp _ _ rfl) .nil)), rfl, rfl, rfl, rfl, rfl⟩
 refine ACode_skip ?_
 refine kR ?_
 refine AOps_q 14 _ rfl rfl rfl (QOp_load_pv _ _ _ _ _ rfl Try.isAgg2 rfl rfl) ?_
 refine AOps_q 15 _ rfl rfl rfl (QOp_load_pv _ _ _ _ _ rfl Try.isAgg2 rfl rfl) ?_
 obtain ⟨r3, hr3, h⟩ := bindO h
 refine kC [] 16 (iV r3) [] rfl Try.call67 rfl rfl (impl_Colouring_at_ac p0 p1 p2 _ hr3) rfl ?_
 refine kN 2 rfl ?_
 refine ACode_ret ?_
 cases h
 exact ⟨_, _, fun r a w h => ⟨r, h⟩, _, _, [], _, (.cons (ResV_tmp _ _ rfl) (.cons (ResV_tmp _ _ rfl) .nil)), rfl, rfl, rfl, rfl, rfl⟩

-- loop.example/g01362/impl.areThousand
def impl_areThousand (p0 : Int) (p1 : Int) : Bool :=
 letO (if (impl_in p0 1 1000) then (impl_in p1 1 1000) else false) fun (s4 : Bool) => s4
set_option maxRecDepth 100000 in
theorem impl_areThousand_ac (p0 : Int) (p1 : Int) : AC Try.prog 77 [iV p0, iV p1] [] (fun res H' => res = [bV (impl_areThousand p0 p1)] ∧ H' = []) := by
 refine AC_of_body true Try.func77 rfl Try.ntmps77 (rvs := [.tmp 4]) rfl rfl (fun G hG => ?_)
 have hm : G.H.length = 0 := by rw [hG]; rfl
 have hz : zeroG G.H = true := by rw [hG]; rfl
 obtain ⟨r, h⟩ : ∃ r, impl_areThousand p0 p1 = r := ⟨_, rfl⟩
 rw [h]
 unfold impl_areThousand at h
 refine kR ?_
 refine kN 1 rfl ?_
 refine kL (fun s4 => [(4, bV s4)]) (fun s4 => []) h (fun s4 h => ?_) (fun s4 h => ?_)
 ·refine (ACode_region ?_)
  refine kM 1 rfl ?_
  refine kC [] 6 (bV (impl_in p0 1 1000)) [] rfl Try.call47 rfl rfl (impl_in_ac p0 1 1000) rfl ?_
  refine kM 1 rfl ?_
  refine AOps_case 7 _ rfl (fun hb2 => ?_) (fun hb2 => ?_)
  ·have h := iteT hb2 h
   refine kM 1 rfl ?_
   refine kC [] 9 (bV (impl_in p1 1 1000)) [] rfl Try.call47 rfl rfl (impl_in_ac p1 1 1000) rfl ?_
   refine kN 2 rfl ?_
   cases h
   exact Weak_keep 0 hm [4] [] _ _ rfl rfl rfl
  have h := iteF hb2 h
  refine AOps_skip 8 rfl rfl rfl ?_
  refine AOps_skip 9 rfl rfl rfl ?_
  refine kN 2 rfl ?_
  cases h
  exact Weak_keep 0 hm [4] [] _ _ rfl rfl rfl
 refine ACode_ret ?_
 cases h
 exact ⟨_, _, fun r a w h => ⟨r, h⟩, _, _, [], _, (.cons (ResV_tmp _ _ rfl) .nil), rfl, rfl, rfl, rfl, rfl⟩

-- loop.example/g01362/impl.MatchingNumber
def impl_MatchingNumber (p0 : Int) (p1 : Int) : Int × Int :=
 (if !(impl_areThousand p0 p1) then (0, 2) else (w64 ((w64 ((w64 (2 * (if p0 < p1 then p1 else p0))) + (if p1 < p0 then p1 else p0))) - 1), 0))
set_option maxRecDepth 100000 in
theorem impl_MatchingNumber_ac (p0 : Int) (p1 : Int) : AC Try.prog 36 [iV p0, iV p1] [] (fun res H' => res = [iV ((impl_MatchingNumber p0 p1).1), iV ((impl_MatchingNumber p0 p1).2)] ∧ H' = []) := by
 refine AC_of_body true Try.func36 rfl Try.ntmps36 (rvs := [.tmp 4, .tmp 5]) rfl rfl (fun G hG => ?_)
 have hm : G.H.length = 0 := by rw [hG]; rfl
 have hz : zeroG G.H = true := by rw [hG]; rfl
 obtain ⟨r, h⟩ : ∃ r, impl_MatchingNumber p0 p1 = r := ⟨_, rfl⟩
 rw [h]
 unfold impl_MatchingNumber at h
 refine kR ?_
 refine kN 2 rfl ?_
 refine ACode_seq ?_
 refine kR ?_
 refine kM 2 rfl ?_
 refine kC [] 8 (bV (impl_areThousand p0 p1)) [] rfl Try.call77 rfl rfl (impl_areThousand_ac p0 p1) rfl ?_
 refine AOps_q 9 _ rfl rfl rfl (QOp_not _ _ _ rfl rfl) ?_
 refine AOps_nil ?_
 refine kI h rfl (fun h _ => ?_) (fun h _ => ?_)
 ·refine kR ?_
  refine kN 2 rfl ?_
  refine ACode_ret ?_
  cases h
  exact ⟨_, _, fun r a w h => ⟨r, h⟩, _, _, [], _, (.cons (ResV_tmp _ _ rfl) (.cons (ResV_tmp _ _ rfl) .nil)), rfl, rfl, rfl, rfl, rfl⟩
 refine ACode_skip ?_
 refine kR ?_
 refine kM 2 rfl ?_
 refine AOps_q 12 _ rfl rfl rfl (QOp_max _ _ _ _ _ _ rfl rfl rfl rfl rfl) ?_
 refine AOps_q 13 _ rfl rfl rfl (QOp_mul _ _ _ _ _ _ _ rfl rfl rfl) ?_
 refine kM 2 rfl ?_
 refine AOps_q 16 _ rfl rfl rfl (QOp_min _ _ _ _ _ _ rfl rfl rfl rfl rfl) ?_
 refine AOps_q 17 _ rfl rfl rfl (QOp_add _ _ _ _ _ _ _ rfl rfl rfl) ?_
 refine AOps_q 18 _ rfl rfl rfl (QOp_sub _ _ _ _ _ _ _ rfl rfl rfl) ?_
 refine kN 2 rfl ?_
 refine ACode_ret ?_
 cases h
 exact ⟨_, _, fun r a w h => ⟨r, h⟩, _, _, [], _, (.cons (ResV_tmp _ _ rfl) (.cons (ResV_tmp _ _ rfl) .nil)), rfl, rfl, rfl, rfl, rfl⟩

-- loop.example/g01362/laws.FnPatterns
def laws_FnPatterns_l0 (k : Nat) (r3 : Col × Int) (r4 : Option (List (List Int)) × Int) : Nat → Int → (List Bool) → Option (Sum (Unit) (Bool))
 | 0, _, _ => none
 | k0 + 1, x71, x72 => (if decide (x71 < ((r4.1.getD []).length : Int)) then ((if 0 ≤ x71 ∧ x71 < ((r4.1.getD []).length : Int) then (if 0 ≤ (0 : Int) ∧ (0 : Int) < (((r4.1.getD []).getD x71.toNat []).length : Int) then (if 0 ≤ x71 ∧ x71 < ((r4.1.getD []).length : Int) then (if 0 ≤ (1 : Int) ∧ (1 : Int) < (((r4.1.getD []).getD x71.toNat []).length : Int) then (impl_ColourOf k r3.1 (((r4.1.getD []).getD x71.toNat []).getD (0 : Int).toNat 0) (((r4.1.getD []).getD x71.toNat []).getD (1 : Int).toNat 0)).bind fun r78 => (((if !decide (r78.2 = 0) then some true else (if !decide (r78.1 = r3.2) then some true else (if 0 ≤ (((r4.1.getD []).getD x71.toNat []).getD (0 : Int).toNat 0) ∧ (((r4.1.getD []).getD x71.toNat []).getD (0 : Int).toNat 0) < (x72.length : Int) then (if (x72.getD (((r4.1.getD []).getD x71.toNat []).getD (0 : Int).toNat 0).toNat false) then some true else (if 0 ≤ (((r4.1.getD []).getD x71.toNat []).getD (1 : Int).toNat 0) ∧ (((r4.1.getD []).getD x71.toNat []).getD (1 : Int).toNat 0) < (x72.length : Int) then some (x72.getD (((r4.1.getD []).getD x71.toNat []).getD (1 : Int).toNat 0).toNat false) else none)) else none))) : Option (Bool)).bind fun s84 => (if s84 then ((some (.inr false)).bind fun rr => some (.inr rr)).bind fun rr => some (.inr rr) else some (.inl ())) : Option (Sum (Unit) (Sum (Unit) (Sum (Unit) (Bool))))).bind fun os86 => (match os86 with | .inl s86 => (if 0 ≤ (((r4.1.getD []).getD x71.toNat []).getD (0 : Int).toNat 0) ∧ (((r4.1.getD []).getD x71.toNat []).getD (0 : Int).toNat 0) < (x72.length : Int) then (if 0 ≤ (((r4.1.getD []).getD x71.toNat []).getD (1 : Int).toNat 0) ∧ (((r4.1.getD []).getD x71.toNat []).getD (1 : Int).toNat 0) < ((x72.set (((r4.1.getD []).getD x71.toNat []).getD (0 : Int).toNat 0).toNat true).length : Int) then some (.inl ()) else none) else none) | .inr rr => some rr) else none) else none) else none) else none) : Option (Sum (Unit) (Sum (Unit) (Bool)))).bind fun os89 => (match os89 with | .inl s89 => laws_FnPatterns_l0 k r3 r4 k0 (w64 (x71 + 1)) ((x72.set (((r4.1.getD []).getD x71.toNat []).getD (0 : Int).toNat 0).toNat true).set (((r4.1.getD []).getD x71.toNat []).getD (1 : Int).toNat 0).toNat true) | .inr rr => some rr) else some (.inl ()))
def laws_FnPatterns (k : Nat) (p0 : List UInt8) : Option (Bool) :=
 (if (laws_big p0) then some true else (spec_DrawGreatestMatching k p0).bind fun r3 => (impl_GreatestMatching k r3.1 r3.2).bind fun r4 => ((spec_GreatestMatching k r3.1 r3.2).bind fun r5 => ((if !decide (r4.2 = r5.2) then some true else (laws_rows9 k (r4.1.getD []) r5.1).bind fun r7 => some (!r7)) : Option (Bool)).bind fun s8 => (if s8 then some (.inr false) else some (.inl ())) : Option (Sum (Unit) (Bool))).bind fun os10 => (match os10 with | .inl s10 => (impl_GreatestStar k r3.1 r3.2).bind fun r11 => ((spec_GreatestStar k r3.1 r3.2).bind fun r12 => letO (if !decide (r11.2.2 = r12.2.2) then true else (if !decide (r11.1 = r12.1) then true else !decide (r11.2.1 = r12.2.1))) fun (s15 : Bool) => (if s15 then some (.inr false) else some (.inl ())) : Option (Sum (Unit) (Bool))).bind fun os17 => (match os17 with | .inl s17 => (impl_GreatestDouble k r3.1 r3.2).bind fun r18 => ((spec_GreatestDouble k r3.1 r3.2).bind fun r19 => ((if !decide (r18.2.2 = r19.2.2) then some true else (laws_likeInts k r18.1 r19.1).bind fun r21 => (if !r21 then some true else some (!decide (r18.2.1 = r19.2.1)))) : Option (Bool)).bind fun s23 => (if s23 then some (.inr false) else some (.inl ())) : Option (Sum (Unit) (Bool))).bind fun os25 => (match os25 with | .inl s25 => (impl_GreatestBook k r3.1 r3.2).bind fun r26 => ((spec_GreatestBook k r3.1 r3.2).bind fun r27 => ((if !decide (r26.2.2 = r27.2.2) then some true else (laws_likeInts k r26.1 r27.1).bind fun r29 => (if !r29 then some true else some (!decide (r26.2.1 = r27.2.1)))) : Option (Bool)).bind fun s31 => (if s31 then some (.inr false) else some (.inl ())) : Option (Sum (Unit) (Bool))).bind fun os33 => (match os33 with | .inl s33 => (spec_DrawAvoidsPattern k p0).bind fun r34 => (impl_AvoidsPattern k r34.1 r34.2.1 r34.2.2.1 r34.2.2.2).bind fun r35 => ((spec_AvoidsPattern k r34.1 r34.2.1 r34.2.2.1 r34.2.2.2).bind fun r36 => letO (if !decide (r35.2 = r36.2) then true else !(r35.1 == r36.1)) fun (s38 : Bool) => (if s38 then some (.inr false) else some (.inl ())) : Option (Sum (Unit) (Bool))).bind fun os40 => (match os40 with | .inl s40 => (letO (if decide (r35.2 = 0) then decide (r34.2.2.1 = 2) else false) fun (s42 : Bool) => (if s42 then (impl_GreatestStar k r34.1 r34.2.1).bind fun r44 => letO (if !decide (r44.2.2 = 0) then true else !(r35.1 == decide (r44.2.1 < r34.2.2.2))) fun (s46 : Bool) => (if s46 then some (.inr false) else some (.inl ())) else some (.inl ())) : Option (Sum (Unit) (Bool))).bind fun os48 => (match os48 with | .inl s48 => ((if decide (r18.2.2 = 0) then (if 0 ≤ (0 : Int) ∧ (0 : Int) < (r18.1.length : Int) then (if 0 ≤ (1 : Int) ∧ (1 : Int) < (r18.1.length : Int) then (impl_CommonNeighbours k r3.1 (r18.1.getD (0 : Int).toNat 0) (r18.1.getD (1 : Int).toNat 0) r3.2).bind fun r52 => letO (if !decide (r52.2 = 0) then true else (if !decide (((r52.1.getD []).length : Int) = r18.2.1) then true else (if decide (r26.2.2 = 0) then decide (r18.2.1 < r26.2.1) else false))) fun (s56 : Bool) => (if s56 then some (.inr false) else some (.inl ())) else none) else none) else some (.inl ())) : Option (Sum (Unit) (Bool))).bind fun os58 => (match os58 with | .inl s58 => (if !decide (r4.2 = 0) then letO (if decide (((r4.1.getD []).length : Int) = 0) then decide (r11.2.2 = r4.2) else false) fun (s61 : Bool) => some s61 else (impl_NeighboursOf k r3.1 r11.1 r3.2).bind fun r62 => (letO (if !decide (r11.2.2 = 0) then true else (if !decide (r62.2 = 0) then true else (if !decide (((r62.1.getD []).length : Int) = r11.2.1) then true else (if !(decide (0 < r11.2.1) == decide (0 < ((r4.1.getD []).length : Int))) then true else !(decide (0 < r11.2.1) == decide (r26.2.2 = 0)))))) fun (s67 : Bool) => (if s67 then some (.inr false) else some (.inl ())) : Option (Sum (Unit) (Bool))).bind fun os69 => (match os69 with | .inl s69 => (if 0 ≤ r3.1.p ∧ r3.1.p ≤ r3.1.p ∧ r3.1.p ≤ 1099511627776 then (laws_FnPatterns_l0 k r3 r4 k 0 (List.replicate r3.1.p.toNat (false : Bool)) : Option (Sum (Unit) (Bool))).bind fun os90 => (match os90 with | .inl s90 => (if !decide (r3.1.k = 2) then some true else (impl_GreatestMatching k r3.1 (w64 (1 - r3.2))).bind fun r92 => letO (if decide (r92.2 = 0) then (if decide ((impl_MatchingNumber (w64 (((r4.1.getD []).length : Int) + 1)) (w64 (((r92.1.getD []).length : Int) + 1))).2 = 0) then decide (r3.1.p < (impl_MatchingNumber (w64 (((r4.1.getD []).length : Int) + 1)) (w64 (((r92.1.getD []).length : Int) + 1))).1) else false) else false) fun (s96 : Bool) => some s96) | .inr rr => some rr) else none) | .inr rr => some rr)) | .inr rr => some rr) | .inr rr => some rr) | .inr rr => some rr) | .inr rr => some rr) | .inr rr => some rr) | .inr rr => some rr) | .inr rr => some rr))
set_option maxHeartbeats 2000000 in
set_option maxRecDepth 100000 in
theorem laws_FnPatterns_ac (k : Nat) (p0 : List UInt8) (r : Bool) (h : laws_FnPatterns k p0 = some r) : AC Try.prog 5 [.d (.sl none (bysD p0))] [] (fun res H' => res = [bV r] ∧ H' = []) := by
 refine AC_of_body true Try.func5 rfl Try.ntmps5 (rvs := [.tmp 2]) rfl rfl (fun G hG => ?_)
 have hm : G.H.length = 0 := by rw [hG]; rfl
 have hz : zeroG G.H = true := by rw [hG]; rfl
 unfold laws_FnPatterns at h
 refine kR ?_
 refine kN 1 rfl ?_
 refine ACode_seq ?_
 refine kR ?_
 refine kM 1 rfl ?_
 refine kC [] 53 (bV (laws_big p0)) [] rfl Try.call9 rfl rfl (laws_big_ac p0) rfl ?_
 refine AOps_nil ?_
 refine kI h rfl (fun h _ => ?_) (fun h _ => ?_)
 ·refine kR ?_
  refine kN 1 rfl ?_
  refine ACode_ret ?_
  cases h
  exact ⟨_, _, fun r a w h => ⟨r, h⟩, _, _, [], _, (.cons (ResV_tmp _ _ rfl) .nil), rfl, rfl, rfl, rfl, rfl⟩
 refine ACode_skip ?_
 refine kR ?_
 refine kM 1 rfl ?_
 obtain ⟨r3, hr3, h⟩ := bindO h
 refine kC [] 56 (.tup [.d (.agg (colD r3.1)), iV r3.2]) [] rfl Try.call23 rfl rfl (spec_DrawGreatestMatching_ac k p0 _ hr3) rfl ?_
 refine kM 3 rfl ?_
 refine AOps_alloc 3 _ _ (colD Col.zero) (zero_of Try.typeInfo27 rfl) (by rfl) rfl rfl rfl rfl ?_
 refine AOps_store _ _ _ _ _ _ (colD _) _ _ rfl rfl rfl rfl rfl rfl rfl (colD_one _) (by rw [colD_length]; exact Try.sizeOf27) (by rw [colD_length, colD_length]; decide) (colD_whole _ _) ?_
 refine kN 1 rfl ?_
 refine kR ?_
 refine AOps_q 60 _ rfl rfl rfl (QOp_loadN_ptr _ _ _ _ _ _ _ rfl Try.isAgg27 Try.sizeOf27 rfl rfl (colD_all _) (colD_length _)) ?_
 refine kM 1 rfl ?_
 obtain ⟨r4, hr4, h⟩ := bindO h
 refine kC [] 62 (.tup [.d (.sl none (rowsD (r4.1.getD []))), iV r4.2]) [.box (colD r3.1)] rfl Try.call24 rfl rfl (AC_frz rfl (frz_cons frz_nil) (impl_GreatestMatching_ac k r3.1 r3.2 _ hr4)) rfl ?_
 refine kN 5 rfl ?_
 refine kO (fun s10 => [(0, .d (.sl none (bysD p0))), (3, .ptr 0 0), (4, iV r3.2), (5, .d (.sl none (rowsD (r4.1.getD [])))), (6, iV r4.2)]) (fun s10 => [.box (colD r3.1)]) h (fun os10 h hks10 => ?_) (fun s10 h => ?_)
 ·refine kR ?_
  refine AOps_q 66 _ rfl rfl rfl (QOp_loadN_ptr _ _ _ _ _ _ _ rfl Try.isAgg27 Try.sizeOf27 rfl rfl (colD_all _) (colD_length _)) ?_
  refine kM 1 rfl ?_
  obtain ⟨r5, hr5, h⟩ := bindO h
  refine kC [] 68 (.tup [.d (.sl none (rowsD r5.1)), iV r5.2]) [.box (colD r3.1)] rfl Try.call25 rfl rfl (spec_GreatestMatching_ac k r3.1 r3.2 _ hr5) rfl ?_
  refine kN 5 rfl ?_
  refine kB (fun s8 => [(0, .d (.sl none (bysD p0))), (3, .ptr 0 0), (4, iV r3.2), (5, .d (.sl none (rowsD (r4.1.getD [])))), (6, iV r4.2), (79, bV s8)]) (fun s8 => [.box (colD r3.1)]) h (fun s8 h => ?_) (fun s8 h => ?_)
  ·refine (ACode_region ?_)
   refine kM 2 rfl ?_
   refine AOps_q 73 _ rfl rfl rfl (QOp_neq _ _ _ _ _ _ _ rfl rfl rfl) ?_
   refine kM 1 rfl ?_
   refine AOps_case 74 _ rfl (fun hb6 => ?_) (fun hb6 => ?_)
   ·have h := iteT hb6 h
    refine AOps_skip 75 rfl rfl rfl ?_
    refine AOps_skip 76 rfl rfl rfl ?_
    refine AOps_skip 77 rfl rfl rfl ?_
    refine AOps_skip 78 rfl rfl rfl ?_
    refine kN 1 rfl ?_
    cases h
    exact Weak_keep 0 hm [0, 3, 4, 5, 6, 79] [0] _ _ rfl rfl rfl
   have h := iteF hb6 h
   refine kM 2 rfl ?_
   obtain ⟨r7, hr7, h⟩ := bindO h
   refine kC [] 77 (bV r7) [.box (colD r3.1)] rfl Try.call26 rfl rfl (laws_rows9_ac k (r4.1.getD []) r5.1 _ hr7) rfl ?_
   refine AOps_q 78 _ rfl rfl rfl (QOp_not _ _ _ rfl rfl) ?_
   refine kN 1 rfl ?_
   cases h
   exact Weak_keep 0 hm [0, 3, 4, 5, 6, 79] [0] _ _ rfl rfl rfl
  refine kI h rfl (fun h _ => ?_) (fun h _ => ?_)
  ·refine kR ?_
   refine kN 1 rfl ?_
   refine ACode_ret ?_
   cases h
   have h := hks10
   cases h
   exact ⟨_, _, fun r a w h => ⟨r, h⟩, _, _, [], _, (.cons (ResV_tmp _ _ rfl) .nil), rfl, rfl, rfl, rfl, rfl⟩
  refine ACode_skip ?_
  cases h
  exact ⟨_, rfl, Weak_keep 0 hm [0, 3, 4, 5, 6] [0] _ _ rfl rfl rfl⟩
 refine kR ?_
 refine AOps_q 81 _ rfl rfl rfl (QOp_loadN_ptr _ _ _ _ _ _ _ rfl Try.isAgg27 Try.sizeOf27 rfl rfl (colD_all _) (colD_length _)) ?_
 refine kM 1 rfl ?_
 obtain ⟨r11, hr11, h⟩ := bindO h
 refine kC [] 83 (.tup [iV r11.1, iV r11.2.1, iV r11.2.2]) [.box (colD r3.1)] rfl Try.call27 rfl rfl (impl_GreatestStar_ac k r3.1 r3.2 _ hr11) rfl ?_
 refine kN 7 rfl ?_
 refine kO (fun s17 => [(0, .d (.sl none (bysD p0))), (3, .ptr 0 0), (4, iV r3.2), (5, .d (.sl none (rowsD (r4.1.getD [])))), (6, iV r4.2), (9, iV r11.1), (10, iV r11.2.1), (11, iV r11.2.2)]) (fun s17 => [.box (colD r3.1)]) h (fun os17 h hks17 => ?_) (fun s17 h => ?_)
 ·refine kR ?_
  refine AOps_q 88 _ rfl rfl rfl (QOp_loadN_ptr _ _ _ _ _ _ _ rfl Try.isAgg27 Try.sizeOf27 rfl rfl (colD_all _) (colD_length _)) ?_
  refine kM 1 rfl ?_
  obtain ⟨r12, hr12, h⟩ := bindO h
  refine kC [] 90 (.tup [iV r12.1, iV r12.2.1, iV r12.2.2]) [.box (colD r3.1)] rfl Try.call28 rfl rfl (spec_GreatestStar_ac k r3.1 r3.2 _ hr12) rfl ?_
  refine kN 7 rfl ?_
  refine kL (fun s15 => [(0, .d (.sl none (bysD p0))), (3, .ptr 0 0), (4, iV r3.2), (5, .d (.sl none (rowsD (r4.1.getD [])))), (6, iV r4.2), (9, iV r11.1), (10, iV r11.2.1), (11, iV r11.2.2), (106, bV s15)]) (fun s15 => [.box (colD r3.1)]) h (fun s15 h => ?_) (fun s15 h => ?_)
  ·refine (ACode_region ?_)
   refine kM 2 rfl ?_
   refine AOps_q 96 _ rfl rfl rfl (QOp_neq _ _ _ _ _ _ _ rfl rfl rfl) ?_
   refine kM 1 rfl ?_
   refine AOps_case 97 _ rfl (fun hb13 => ?_) (fun hb13 => ?_)
   ·have h := iteT hb13 h
    refine AOps_skip 98 rfl rfl rfl ?_
    refine AOps_skip 99 rfl rfl rfl ?_
    refine AOps_skip 100 rfl rfl rfl ?_
    refine kM 2 rfl ?_
    refine AOps_skip 103 rfl rfl rfl ?_
    refine AOps_skip 104 rfl rfl rfl ?_
    refine AOps_skip 105 rfl rfl rfl ?_
    refine kN 1 rfl ?_
    cases h
    exact Weak_keep 0 hm [0, 3, 4, 5, 6, 9, 10, 11, 106] [0] _ _ rfl rfl rfl
   have h := iteF hb13 h
   refine kM 2 rfl ?_
   refine AOps_q 100 _ rfl rfl rfl (QOp_neq _ _ _ _ _ _ _ rfl rfl rfl) ?_
   refine kM 2 rfl ?_
   refine AOps_case 102 _ rfl (fun hb14 => ?_) (fun hb14 => ?_)
   ·have h := iteT hb14 h
    refine AOps_skip 103 rfl rfl rfl ?_
    refine AOps_skip 104 rfl rfl rfl ?_
    refine AOps_skip 105 rfl rfl rfl ?_
    refine kN 1 rfl ?_
    cases h
    exact Weak_keep 0 hm [0, 3, 4, 5, 6, 9, 10, 11, 106] [0] _ _ rfl rfl rfl
   have h := iteF hb14 h
   refine kM 2 rfl ?_
   refine AOps_q 105 _ rfl rfl rfl (QOp_neq _ _ _ _ _ _ _ rfl rfl rfl) ?_
   refine kN 1 rfl ?_
   cases h
   exact Weak_keep 0 hm [0, 3, 4, 5, 6, 9, 10, 11, 106] [0] _ _ rfl rfl rfl
  refine kI h rfl (fun h _ => ?_) (fun h _ => ?_)
  ·refine kR ?_
   refine kN 1 rfl ?_
   refine ACode_ret ?_
   cases h
   have h := hks17
   cases h
   exact ⟨_, _, fun r a w h => ⟨r, h⟩, _, _, [], _, (.cons (ResV_tmp _ _ rfl) .nil), rfl, rfl, rfl, rfl, rfl⟩
  refine ACode_skip ?_
  cases h
  exact ⟨_, rfl, Weak_keep 0 hm [0, 3, 4, 5, 6, 9, 10, 11] [0] _ _ rfl rfl rfl⟩
 refine kR ?_
 refine AOps_q 108 _ rfl rfl rfl (QOp_loadN_ptr _ _ _ _ _ _ _ rfl Try.isAgg27 Try.sizeOf27 rfl rfl (colD_all _) (colD_length _)) ?_
 refine kM 1 rfl ?_
 obtain ⟨r18, hr18, h⟩ := bindO h
 refine kC [] 110 (.tup [.d (.sl none (intsD r18.1)), iV r18.2.1, iV r18.2.2]) [.box (colD r3.1)] rfl Try.call29 rfl rfl (impl_GreatestDouble_ac k r3.1 r3.2 _ hr18) rfl ?_
 refine kN 7 rfl ?_
 refine kO (fun s25 => [(0, .d (.sl none (bysD p0))), (3, .ptr 0 0), (4, iV r3.2), (5, .d (.sl none (rowsD (r4.1.getD [])))), (6, iV r4.2), (9, iV r11.1), (10, iV r11.2.1), (11, iV r11.2.2), (15, .d (.sl none (intsD r18.1))), (16, iV r18.2.1), (17, iV r18.2.2)]) (fun s25 => [.box (colD r3.1)]) h (fun os25 h hks25 => ?_) (fun s25 h => ?_)
 ·refine kR ?_
  refine AOps_q 115 _ rfl rfl rfl (QOp_loadN_ptr _ _ _ _ _ _ _ rfl Try.isAgg27 Try.sizeOf27 rfl rfl (colD_all _) (colD_length _)) ?_
  refine kM 1 rfl ?_
  obtain ⟨r19, hr19, h⟩ := bindO h
  refine kC [] 117 (.tup [.d (.sl none (intsD r19.1)), iV r19.2.1, iV r19.2.2]) [.box (colD r3.1)] rfl Try.call30 rfl rfl (spec_GreatestDouble_ac k r3.1 r3.2 _ hr19) rfl ?_
  refine kN 7 rfl ?_
  refine kB (fun s23 => [(0, .d (.sl none (bysD p0))), (3, .ptr 0 0), (4, iV r3.2), (5, .d (.sl none (rowsD (r4.1.getD [])))), (6, iV r4.2), (9, iV r11.1), (10, iV r11.2.1), (11, iV r11.2.2), (15, .d (.sl none (intsD r18.1))), (16, iV r18.2.1), (17, iV r18.2.2), (134, bV s23)]) (fun s23 => [.box (colD r3.1)]) h (fun s23 h => ?_) (fun s23 h => ?_)
  ·refine (ACode_region ?_)
   refine kM 2 rfl ?_
   refine AOps_q 123 _ rfl rfl rfl (QOp_neq _ _ _ _ _ _ _ rfl rfl rfl) ?_
   refine kM 1 rfl ?_
   refine AOps_case 124 _ rfl (fun hb20 => ?_) (fun hb20 => ?_)
   ·have h := iteT hb20 h
    refine AOps_skip 125 rfl rfl rfl ?_
    refine AOps_skip 126 rfl rfl rfl ?_
    refine AOps_skip 127 rfl rfl rfl ?_
    refine AOps_skip 128 rfl rfl rfl ?_
    refine kM 2 rfl ?_
    refine AOps_skip 131 rfl rfl rfl ?_
    refine AOps_skip 132 rfl rfl rfl ?_
    refine AOps_skip 133 rfl rfl rfl ?_
    refine kN 1 rfl ?_
    cases h
    exact Weak_keep 0 hm [0, 3, 4, 5, 6, 9, 10, 11, 15, 16, 17, 134] [0] _ _ rfl rfl rfl
   have h := iteF hb20 h
   refine kM 2 rfl ?_
   obtain ⟨r21, hr21, h⟩ := bindO h
   refine kC [] 127 (bV r21) [.box (colD r3.1)] rfl Try.call13 rfl rfl (laws_likeInts_ac k r18.1 r19.1 _ hr21) rfl ?_
   refine AOps_q 128 _ rfl rfl rfl (QOp_not _ _ _ rfl rfl) ?_
   refine kM 2 rfl ?_
   refine AOps_case 130 _ rfl (fun hb22 => ?_) (fun hb22 => ?_)
   ·have h := iteT hb22 h
    refine AOps_skip 131 rfl rfl rfl ?_
    refine AOps_skip 132 rfl rfl rfl ?_
    refine AOps_skip 133 rfl rfl rfl ?_
    refine kN 1 rfl ?_
    cases h
    exact Weak_keep 0 hm [0, 3, 4, 5, 6, 9, 10, 11, 15, 16, 17, 134] [0] _ _ rfl rfl rfl
   have h := iteF hb22 h
   refine kM 2 rfl ?_
   refine AOps_q 133 _ rfl rfl rfl (QOp_neq _ _ _ _ _ _ _ rfl rfl rfl) ?_
   refine kN 1 rfl ?_
   cases h
   exact Weak_keep 0 hm [0, 3, 4, 5, 6, 9, 10, 11, 15, 16, 17, 134] [0] _ _ rfl rfl rfl
  refine kI h rfl (fun h _ => ?_) (fun h _ => ?_)
  ·refine kR ?_
   refine kN 1 rfl ?_
   refine ACode_ret ?_
   cases h
   have h := hks25
   cases h
   exact ⟨_, _, fun r a w h => ⟨r, h⟩, _, _, [], _, (.cons (ResV_tmp _ _ rfl) .nil), rfl, rfl, rfl, rfl, rfl⟩
  refine ACode_skip ?_
  cases h
  exact ⟨_, rfl, Weak_keep 0 hm [0, 3, 4, 5, 6, 9, 10, 11, 15, 16, 17] [0] _ _ rfl rfl rfl⟩
 refine kR ?_
 refine AOps_q 136 _ rfl rfl rfl (QOp_loadN_ptr _ _ _ _ _ _ _ rfl Try.isAgg27 Try.sizeOf27 rfl rfl (colD_all _) (colD_length _)) ?_
 refine kM 1 rfl ?_
 obtain ⟨r26, hr26, h⟩ := bindO h
 refine kC [] 138 (.tup [.d (.sl none (intsD r26.1)), iV r26.2.1, iV r26.2.2]) [.box (colD r3.1)] rfl Try.call31 rfl rfl (impl_GreatestBook_ac k r3.1 r3.2 _ hr26) rfl ?_
 refine kN 7 rfl ?_
 refine kO (fun s33 => [(0, .d (.sl none (bysD p0))), (3, .ptr 0 0), (4, iV r3.2), (5, .d (.sl none (rowsD (r4.1.getD [])))), (6, iV r4.2), (9, iV r11.1), (10, iV r11.2.1), (11, iV r11.2.2), (15, .d (.sl none (intsD r18.1))), (16, iV r18.2.1), (17, iV r18.2.2), (22, iV r26.2.1), (23, iV r26.2.2)]) (fun s33 => [.box (colD r3.1)]) h (fun os33 h hks33 => ?_) (fun s33 h => ?_)
 ·refine kR ?_
  refine AOps_q 143 _ rfl rfl rfl (QOp_loadN_ptr _ _ _ _ _ _ _ rfl Try.isAgg27 Try.sizeOf27 rfl rfl (colD_all _) (colD_length _)) ?_
  refine kM 1 rfl ?_
  obtain ⟨r27, hr27, h⟩ := bindO h
  refine kC [] 145 (.tup [.d (.sl none (intsD r27.1)), iV r27.2.1, iV r27.2.2]) [.box (colD r3.1)] rfl Try.call32 rfl rfl (spec_GreatestBook_ac k r3.1 r3.2 _ hr27) rfl ?_
  refine kN 7 rfl ?_
  refine kB (fun s31 => [(0, .d (.sl none (bysD p0))), (3, .ptr 0 0), (4, iV r3.2), (5, .d (.sl none (rowsD (r4.1.getD [])))), (6, iV r4.2), (9, iV r11.1), (10, iV r11.2.1), (11, iV r11.2.2), (15, .d (.sl none (intsD r18.1))), (16, iV r18.2.1), (17, iV r18.2.2), (22, iV r26.2.1), (23, iV r26.2.2), (162, bV s31)]) (fun s31 => [.box (colD r3.1)]) h (fun s31 h => ?_) (fun s31 h => ?_)
  ·refine (ACode_region ?_)
   refine kM 2 rfl ?_
   refine AOps_q 151 _ rfl rfl rfl (QOp_neq _ _ _ _ _ _ _ rfl rfl rfl) ?_
   refine kM 1 rfl ?_
   refine AOps_case 152 _ rfl (fun hb28 => ?_) (fun hb28 => ?_)
   ·have h := iteT hb28 h
    refine AOps_skip 153 rfl rfl rfl ?_
    refine AOps_skip 154 rfl rfl rfl ?_
    refine AOps_skip 155 rfl rfl rfl ?_
    refine AOps_skip 156 rfl rfl rfl ?_
    refine kM 2 rfl ?_
    refine AOps_skip 159 rfl rfl rfl ?_
    refine AOps_skip 160 rfl rfl rfl ?_
    refine AOps_skip 161 rfl rfl rfl ?_
    refine kN 1 rfl ?_
    cases h
    exact Weak_keep 0 hm [0, 3, 4, 5, 6, 9, 10, 11, 15, 16, 17, 22, 23, 162] [0] _ _ rfl rfl rfl
   have h := iteF hb28 h
   refine kM 2 rfl ?_
   obtain ⟨r29, hr29, h⟩ := bindO h
   refine kC [] 155 (bV r29) [.box (colD r3.1)] rfl Try.call13 rfl rfl (laws_likeInts_ac k r26.1 r27.1 _ hr29) rfl ?_
   refine AOps_q 156 _ rfl rfl rfl (QOp_not _ _ _ rfl rfl) ?_
   refine kM 2 rfl ?_
   refine AOps_case 158 _ rfl (fun hb30 => ?_) (fun hb30 => ?_)
   ·have h := iteT hb30 h
    refine AOps_skip 159 rfl rfl rfl ?_
    refine AOps_skip 160 rfl rfl rfl ?_
    refine AOps_skip 161 rfl rfl rfl ?_
    refine kN 1 rfl ?_
    cases h
    exact Weak_keep 0 hm [0, 3, 4, 5, 6, 9, 10, 11, 15, 16, 17, 22, 23, 162] [0] _ _ rfl rfl rfl
   have h := iteF hb30 h
   refine kM 2 rfl ?_
   refine AOps_q 161 _ rfl rfl rfl (QOp_neq _ _ _ _ _ _ _ rfl rfl rfl) ?_
   refine kN 1 rfl ?_
   cases h
   exact Weak_keep 0 hm [0, 3, 4, 5, 6, 9, 10, 11, 15, 16, 17, 22, 23, 162] [0] _ _ rfl rfl rfl
  refine kI h rfl (fun h _ => ?_) (fun h _ => ?_)
  ·refine kR ?_
   refine kN 1 rfl ?_
   refine ACode_ret ?_
   cases h
   have h := hks33
   cases h
   exact ⟨_, _, fun r a w h => ⟨r, h⟩, _, _, [], _, (.cons (ResV_tmp _ _ rfl) .nil), rfl, rfl, rfl, rfl, rfl⟩
  refine ACode_skip ?_
  cases h
  exact ⟨_, rfl, Weak_keep 0 hm [0, 3, 4, 5, 6, 9, 10, 11, 15, 16, 17, 22, 23] [0] _ _ rfl rfl rfl⟩
 refine kR ?_
 refine kM 1 rfl ?_
 obtain ⟨r34, hr34, h⟩ := bindO h
 refine kC [] 165 (.tup [.d (.agg (colD r34.1)), iV r34.2.1, iV r34.2.2.1, iV r34.2.2.2]) [.box (colD r3.1)] rfl Try.call33 rfl rfl (spec_DrawAvoidsPattern_ac k p0 _ hr34) rfl ?_
 refine kM 5 rfl ?_
 refine AOps_alloc 27 _ _ (colD Col.zero) (zero_of Try.typeInfo27 rfl) (by rfl) rfl rfl rfl rfl ?_
 refine AOps_store _ _ _ _ _ _ (colD _) _ _ rfl rfl rfl rfl rfl rfl rfl (colD_one _) (by rw [colD_length]; exact Try.sizeOf27) (by rw [colD_length, colD_length]; decide) (colD_whole _ _) ?_
 refine kN 3 rfl ?_
 refine kR ?_
 refine AOps_q 171 _ rfl rfl rfl (QOp_loadN_ptr _ _ _ _ _ _ _ rfl Try.isAgg27 Try.sizeOf27 rfl rfl (colD_all _) (colD_length _)) ?_
 refine kM 3 rfl ?_
 obtain ⟨r35, hr35, h⟩ := bindO h
 refine kC [] 175 (.tup [bV r35.1, iV r35.2]) [.box (colD r3.1), .box (colD r34.1)] rfl Try.call8 rfl rfl (impl_AvoidsPattern_ac k r34.1 r34.2.1 r34.2.2.1 r34.2.2.2 _ hr35) rfl ?_
 refine kN 5 rfl ?_
 refine kO (fun s40 => [(3, .ptr 0 0), (4, iV r3.2), (5, .d (.sl none (rowsD (r4.1.getD [])))), (6, iV r4.2), (9, iV r11.1), (10, iV r11.2.1), (11, iV r11.2.2), (15, .d (.sl none (intsD r18.1))), (16, iV r18.2.1), (17, iV r18.2.2), (22, iV r26.2.1), (23, iV r26.2.2), (27, .ptr 1 0), (28, iV r34.2.1), (29, iV r34.2.2.1), (30, iV r34.2.2.2), (31, bV r35.1), (32, iV r35.2)]) (fun s40 => [.box (colD r3.1), .box (colD r34.1)]) h (fun os40 h hks40 => ?_) (fun s40 h => ?_)
 ·refine kR ?_
  refine AOps_q 179 _ rfl rfl rfl (QOp_loadN_ptr _ _ _ _ _ _ _ rfl Try.isAgg27 Try.sizeOf27 rfl rfl (colD_all _) (colD_length _)) ?_
  refine kM 3 rfl ?_
  obtain ⟨r36, hr36, h⟩ := bindO h
  refine kC [] 183 (.tup [bV r36.1, iV r36.2]) [.box (colD r3.1), .box (colD r34.1)] rfl Try.call6 rfl rfl (spec_AvoidsPattern_ac k r34.1 r34.2.1 r34.2.2.1 r34.2.2.2 _ hr36) rfl ?_
  refine kN 5 rfl ?_
  refine kL (fun s38 => [(3, .ptr 0 0), (4, iV r3.2), (5, .d (.sl none (rowsD (r4.1.getD [])))), (6, iV r4.2), (9, iV r11.1), (10, iV r11.2.1), (11, iV r11.2.2), (15, .d (.sl none (intsD r18.1))), (16, iV r18.2.1), (17, iV r18.2.2), (22, iV r26.2.1), (23, iV r26.2.2), (27, .ptr 1 0), (28, iV r34.2.1), (29, iV r34.2.2.1), (30, iV r34.2.2.2), (31, bV r35.1), (32, iV r35.2), (193, bV s38)]) (fun s38 => [.box (colD r3.1), .box (colD r34.1)]) h (fun s38 h => ?_) (fun s38 h => ?_)
  ·refine (ACode_region ?_)
   refine kM 2 rfl ?_
   refine AOps_q 188 _ rfl rfl rfl (QOp_neq _ _ _ _ _ _ _ rfl rfl rfl) ?_
   refine kM 1 rfl ?_
   refine AOps_case 189 _ rfl (fun hb37 => ?_) (fun hb37 => ?_)
   ·have h := iteT hb37 h
    refine AOps_skip 190 rfl rfl rfl ?_
    refine AOps_skip 191 rfl rfl rfl ?_
    refine AOps_skip 192 rfl rfl rfl ?_
    refine kN 1 rfl ?_
    cases h
    exact Weak_keep 0 hm [3, 4, 5, 6, 9, 10, 11, 15, 16, 17, 22, 23, 27, 28, 29, 30, 31, 32, 193] [0, 1] _ _ rfl rfl rfl
   have h := iteF hb37 h
   refine kM 2 rfl ?_
   refine AOps_q 192 _ rfl rfl rfl (QOp_bneq _ _ _ _ _ _ rfl rfl rfl Try.underlying4) ?_
   refine kN 1 rfl ?_
   cases h
   exact Weak_keep 0 hm [3, 4, 5, 6, 9, 10, 11, 15, 16, 17, 22, 23, 27, 28, 29, 30, 31, 32, 193] [0, 1] _ _ rfl rfl rfl
  refine kI h rfl (fun h _ => ?_) (fun h _ => ?_)
  ·refine kR ?_
   refine kN 1 rfl ?_
   refine ACode_ret ?_
   cases h
   have h := hks40
   cases h
   exact ⟨_, _, fun r a w h => ⟨r, h⟩, _, _, [], _, (.cons (ResV_tmp _ _ rfl) .nil), rfl, rfl, rfl, rfl, rfl⟩
  refine ACode_skip ?_
  cases h
  exact ⟨_, rfl, Weak_keep 0 hm [3, 4, 5, 6, 9, 10, 11, 15, 16, 17, 22, 23, 27, 28, 29, 30, 31, 32] [0, 1] _ _ rfl rfl rfl⟩
 refine kO (fun s48 => [(3, .ptr 0 0), (4, iV r3.2), (5, .d (.sl none (rowsD (r4.1.getD [])))), (6, iV r4.2), (9, iV r11.1), (10, iV r11.2.1), (11, iV r11.2.2), (15, .d (.sl none (intsD r18.1))), (16, iV r18.2.1), (17, iV r18.2.2), (22, iV r26.2.1), (23, iV r26.2.2)]) (fun s48 => [.box (colD r3.1)]) h (fun os48 h hks48 => ?_) (fun s48 h => ?_)
 ·refine kL (fun s42 => [(3, .ptr 0 0), (4, iV r3.2), (5, .d (.sl none (rowsD (r4.1.getD [])))), (6, iV r4.2), (9, iV r11.1), (10, iV r11.2.1), (11, iV r11.2.2), (15, .d (.sl none (intsD r18.1))), (16, iV r18.2.1), (17, iV r18.2.2), (22, iV r26.2.1), (23, iV r26.2.2), (27, .ptr 1 0), (28, iV r34.2.1), (30, iV r34.2.2.2), (31, bV r35.1), (199, bV s42)]) (fun s42 => [.box (colD r3.1), .box (colD r34.1)]) h (fun s42 h => ?_) (fun s42 h => ?_)
  ·refine (ACode_region ?_)
   refine kM 1 rfl ?_
   refine AOps_q 195 _ rfl rfl rfl (QOp_eql _ _ _ _ _ _ _ rfl rfl rfl) ?_
   refine kM 1 rfl ?_
   refine AOps_case 196 _ rfl (fun hb41 => ?_) (fun hb41 => ?_)
   ·have h := iteT hb41 h
    refine kM 1 rfl ?_
    refine AOps_q 198 _ rfl rfl rfl (QOp_eql _ _ _ _ _ _ _ rfl rfl rfl) ?_
    refine kN 1 rfl ?_
    cases h
    exact Weak_keep 0 hm [3, 4, 5, 6, 9, 10, 11, 15, 16, 17, 22, 23, 27, 28, 30, 31, 199] [0, 1] _ _ rfl rfl rfl
   have h := iteF hb41 h
   refine AOps_skip 197 rfl rfl rfl ?_
   refine AOps_skip 198 rfl rfl rfl ?_
   refine kN 1 rfl ?_
   cases h
   exact Weak_keep 0 hm [3, 4, 5, 6, 9, 10, 11, 15, 16, 17, 22, 23, 27, 28, 30, 31, 199] [0, 1] _ _ rfl rfl rfl
  refine kI h rfl (fun h _ => ?_) (fun h _ => ?_)
  ·refine kR ?_
   refine AOps_q 201 _ rfl rfl rfl (QOp_loadN_ptr _ _ _ _ _ _ _ rfl Try.isAgg27 Try.sizeOf27 rfl rfl (colD_all _) (colD_length _)) ?_
   refine kM 1 rfl ?_
   obtain ⟨r44, hr44, h⟩ := bindO h
   refine kC [] 203 (.tup [iV r44.1, iV r44.2.1, iV r44.2.2]) [.box (colD r3.1), .box (colD r34.1)] rfl Try.call27 rfl rfl (impl_GreatestStar_ac k r34.1 r34.2.1 _ hr44) rfl ?_
   refine kN 7 rfl ?_
   refine kL (fun s46 => [(3, .ptr 0 0), (4, iV r3.2), (5, .d (.sl none (rowsD (r4.1.getD [])))), (6, iV r4.2), (9, iV r11.1), (10, iV r11.2.1), (11, iV r11.2.2), (15, .d (.sl none (intsD r18.1))), (16, iV r18.2.1), (17, iV r18.2.2), (22, iV r26.2.1), (23, iV r26.2.2), (215, bV s46)]) (fun s46 => [.box (colD r3.1)]) h (fun s46 h => ?_) (fun s46 h => ?_)
   ·refine (ACode_region ?_)
    refine kM 1 rfl ?_
    refine AOps_q 208 _ rfl rfl rfl (QOp_neq _ _ _ _ _ _ _ rfl rfl rfl) ?_
    refine kM 1 rfl ?_
    refine AOps_case 209 _ rfl (fun hb45 => ?_) (fun hb45 => ?_)
    ·have h := iteT hb45 h
     refine AOps_skip 210 rfl rfl rfl ?_
     refine AOps_skip 211 rfl rfl rfl ?_
     refine AOps_skip 212 rfl rfl rfl ?_
     refine AOps_skip 213 rfl rfl rfl ?_
     refine AOps_skip 214 rfl rfl rfl ?_
     refine kN 1 rfl ?_
     cases h
     exact Weak_keep 0 hm [3, 4, 5, 6, 9, 10, 11, 15, 16, 17, 22, 23, 215] [0] _ _ rfl rfl rfl
    have h := iteF hb45 h
    refine kM 3 rfl ?_
    refine AOps_q 213 _ rfl rfl rfl (QOp_lss _ _ _ _ _ _ _ rfl rfl rfl) ?_
    refine AOps_q 214 _ rfl rfl rfl (QOp_bneq _ _ _ _ _ _ rfl rfl rfl Try.underlying4) ?_
    refine kN 1 rfl ?_
    cases h
    exact Weak_keep 0 hm [3, 4, 5, 6, 9, 10, 11, 15, 16, 17, 22, 23, 215] [0] _ _ rfl rfl rfl
   refine kI h rfl (fun h _ => ?_) (fun h _ => ?_)
   ·refine kR ?_
    refine kN 1 rfl ?_
    refine ACode_ret ?_
    cases h
    have h := hks48
    cases h
    exact ⟨_, _, fun r a w h => ⟨r, h⟩, _, _, [], _, (.cons (ResV_tmp _ _ rfl) .nil), rfl, rfl, rfl, rfl, rfl⟩
   refine ACode_skip ?_
   cases h
   exact ⟨_, rfl, Weak_keep 0 hm [3, 4, 5, 6, 9, 10, 11, 15, 16, 17, 22, 23] [0] _ _ rfl rfl rfl⟩
  refine ACode_skip ?_
  cases h
  exact ⟨_, rfl, Weak_keep 0 hm [3, 4, 5, 6, 9, 10, 11, 15, 16, 17, 22, 23] [0] _ _ rfl rfl rfl⟩
 refine kO (fun s58 => [(3, .ptr 0 0), (4, iV r3.2), (5, .d (.sl none (rowsD (r4.1.getD [])))), (6, iV r4.2), (9, iV r11.1), (10, iV r11.2.1), (11, iV r11.2.2), (23, iV r26.2.2)]) (fun s58 => [.box (colD r3.1)]) h (fun os58 h hks58 => ?_) (fun s58 h => ?_)
 ·refine kR ?_
  refine kM 1 rfl ?_
  refine AOps_q 217 _ rfl rfl rfl (QOp_eql _ _ _ _ _ _ _ rfl rfl rfl) ?_
  refine AOps_nil ?_
  refine kI h rfl (fun h _ => ?_) (fun h _ => ?_)
  ·obtain ⟨hc50, h⟩ := guardO h
   obtain ⟨hc51, h⟩ := guardO h
   obtain ⟨r52, hr52, h⟩ := bindO h
   refine ACode_seqJ (fun E' H' => Weak 376 G E' H' [(3, .ptr 0 0), (4, iV r3.2), (5, .d (.sl none (rowsD (r4.1.getD [])))), (6, iV r4.2), (9, iV r11.1), (10, iV r11.2.1), (11, iV r11.2.2), (16, iV r18.2.1), (22, iV r26.2.1), (23, iV r26.2.2), (38, .d (.sl none (intsD (r52.1.getD [])))), (39, iV r52.2)] [.box (colD r3.1)]) ?_ ?_
   ·refine ACode_any mixed ?_
    refine AAny_q 0 219 _ rfl (by kernel_rfl) rfl rfl rfl (QOp_loadN_ptr _ _ _ _ _ _ _ rfl Try.isAgg27 Try.sizeOf27 rfl rfl (colD_all _) (colD_length _)) ?_
    refine AAny_q 1 220 _ rfl (by kernel_rfl) rfl rfl rfl (QOp_move _ _ rfl rfl) ?_
    refine AAny_q 2 221 _ rfl (by kernel_rfl) rfl rfl rfl (QOp_indexAddr_sl _ _ _ _ _ _ _ _ rfl Try.underlying34 Try.sizeOf2 hc50.1 (by rw [intsD_length]; exact hc50.2) rfl rfl) ?_
    refine AAny_q 3 222 _ rfl (by kernel_rfl) rfl rfl rfl (QOp_load_pv _ _ _ _ _ rfl Try.isAgg2 rfl (intsD_get _ _ 0 (by omega))) ?_
    refine AAny_q 4 223 _ rfl (by kernel_rfl) rfl rfl rfl (QOp_move _ _ rfl rfl) ?_
    refine AAny_q 5 224 _ rfl (by kernel_rfl) rfl rfl rfl (QOp_indexAddr_sl _ _ _ _ _ _ _ _ rfl Try.underlying34 Try.sizeOf2 hc51.1 (by rw [intsD_length]; exact hc51.2) rfl rfl) ?_
    refine AAny_q 6 225 _ rfl (by kernel_rfl) rfl rfl rfl (QOp_load_pv _ _ _ _ _ rfl Try.isAgg2 rfl (intsD_get _ _ 0 (by omega))) ?_
    refine AAny_q 7 226 _ rfl (by kernel_rfl) rfl rfl rfl (QOp_move _ _ rfl rfl) ?_
    refine AAny_all [8] (by kernel_rfl) rfl (allc ?_ (fun _ h => nomatch h))
    refine AStep_callN 8 227 _ _ _ _ _ _ _ _ _ rfl rfl rfl rfl rfl rfl rfl rfl Try.call34 rfl rfl rfl (AC_frz rfl (frz_cons frz_nil) (impl_CommonNeighbours_ac k r3.1 (r18.1.getD (0 : Int).toNat 0) (r18.1.getD (1 : Int).toNat 0) r3.2 _ hr52)) ?_
    rintro _ _ ⟨rfl, rfl⟩
    refine ⟨(fun _ h => nomatch h), (allc (trivial) (allc (trivial) (fun _ h => nomatch h))), AAny_as 227 (v' := .tup [.d (.sl none (intsD (r52.1.getD []))), iV r52.2]) (H' := [.box (colD r3.1)]) rfl rfl ?_⟩
    refine AAny_q 9 218 _ rfl (by kernel_rfl) rfl rfl rfl (QOp_move _ _ rfl rfl) ?_
    refine AAny_q 10 228 _ rfl (by kernel_rfl) rfl rfl rfl (QOp_extract _ _ _ _ rfl rfl rfl) ?_
    refine AAny_q 11 229 _ rfl (by kernel_rfl) rfl rfl rfl (QOp_extract _ _ _ _ rfl rfl rfl) ?_
    refine AAny_q 12 38 _ rfl (by kernel_rfl) rfl rfl rfl (QOp_assign _ _ rfl rfl) ?_
    refine AAny_q 13 39 _ rfl (by kernel_rfl) rfl rfl rfl (QOp_assign _ _ rfl rfl) ?_
    refine AAny_done (by kernel_rfl) ?_
    exact Weak_keep 0 hm [3, 4, 5, 6, 9, 10, 11, 16, 22, 23, 38, 39] [0] _ _ rfl rfl rfl
   intro E' H' hw
   refine ACode_weak hw ?_
   refine kL (fun s56 => [(3, .ptr 0 0), (4, iV r3.2), (5, .d (.sl none (rowsD (r4.1.getD [])))), (6, iV r4.2), (9, iV r11.1), (10, iV r11.2.1), (11, iV r11.2.2), (23, iV r26.2.2), (246, bV s56)]) (fun s56 => [.box (colD r3.1)]) h (fun s56 h => ?_) (fun s56 h => ?_)
   ·refine (ACode_region ?_)
    refine kM 1 rfl ?_
    refine AOps_q 231 _ rfl rfl rfl (QOp_neq _ _ _ _ _ _ _ rfl rfl rfl) ?_
    refine kM 1 rfl ?_
    refine AOps_case 232 _ rfl (fun hb53 => ?_) (fun hb53 => ?_)
    ·have h := iteT hb53 h
     refine AOps_skip 233 rfl rfl rfl ?_
     refine AOps_skip 234 rfl rfl rfl ?_
     refine AOps_skip 235 rfl rfl rfl ?_
     refine AOps_skip 236 rfl rfl rfl ?_
     refine kM 2 rfl ?_
     refine AOps_skip 239 rfl rfl rfl ?_
     refine AOps_skip 240 rfl rfl rfl ?_
     refine AOps_skip 241 rfl rfl rfl ?_
     refine AOps_skip 242 rfl rfl rfl ?_
     refine AOps_skip 243 rfl rfl rfl ?_
     refine AOps_skip 244 rfl rfl rfl ?_
     refine AOps_skip 245 rfl rfl rfl ?_
     refine kN 1 rfl ?_
     cases h
     exact Weak_keep 0 hm [3, 4, 5, 6, 9, 10, 11, 23, 246] [0] _ _ rfl rfl rfl
    have h := iteF hb53 h
    refine kM 1 rfl ?_
    refine AOps_q 234 _ rfl rfl rfl (QOp_len_sl _ _ _ _ _ _ _ (intsD_length _) rfl rfl rfl rfl Try.underlying34 rfl) ?_
    refine kM 1 rfl ?_
    refine AOps_q 236 _ rfl rfl rfl (QOp_neq _ _ _ _ _ _ _ rfl rfl rfl) ?_
    refine kM 2 rfl ?_
    refine AOps_case 238 _ rfl (fun hb54 => ?_) (fun hb54 => ?_)
    ·have h := iteT hb54 h
     refine AOps_skip 239 rfl rfl rfl ?_
     refine AOps_skip 240 rfl rfl rfl ?_
     refine AOps_skip 241 rfl rfl rfl ?_
     refine AOps_skip 242 rfl rfl rfl ?_
     refine AOps_skip 243 rfl rfl rfl ?_
     refine AOps_skip 244 rfl rfl rfl ?_
     refine AOps_skip 245 rfl rfl rfl ?_
     refine kN 1 rfl ?_
     cases h
     exact Weak_keep 0 hm [3, 4, 5, 6, 9, 10, 11, 23, 246] [0] _ _ rfl rfl rfl
    have h := iteF hb54 h
    refine kM 1 rfl ?_
    refine AOps_q 240 _ rfl rfl rfl (QOp_eql _ _ _ _ _ _ _ rfl rfl rfl) ?_
    refine kM 1 rfl ?_
    refine AOps_case 241 _ rfl (fun hb55 => ?_) (fun hb55 => ?_)
    ·have h := iteT hb55 h
     refine kM 2 rfl ?_
     refine AOps_q 244 _ rfl rfl rfl (QOp_gtr _ _ _ _ _ _ _ rfl rfl rfl) ?_
     refine kN 2 rfl ?_
     cases h
     exact Weak_keep 0 hm [3, 4, 5, 6, 9, 10, 11, 23, 246] [0] _ _ rfl rfl rfl
    have h := iteF hb55 h
    refine AOps_skip 242 rfl rfl rfl ?_
    refine AOps_skip 243 rfl rfl rfl ?_
    refine AOps_skip 244 rfl rfl rfl ?_
    refine kN 2 rfl ?_
    cases h
    exact Weak_keep 0 hm [3, 4, 5, 6, 9, 10, 11, 23, 246] [0] _ _ rfl rfl rfl
   refine kI h rfl (fun h _ => ?_) (fun h _ => ?_)
   ·refine kR ?_
    refine kN 1 rfl ?_
    refine ACode_ret ?_
    cases h
    have h := hks58
    cases h
    exact ⟨_, _, fun r a w h => ⟨r, h⟩, _, _, [], _, (.cons (ResV_tmp _ _ rfl) .nil), rfl, rfl, rfl, rfl, rfl⟩
   refine ACode_skip ?_
   cases h
   exact ⟨_, rfl, Weak_keep 0 hm [3, 4, 5, 6, 9, 10, 11, 23] [0] _ _ rfl rfl rfl⟩
  refine ACode_skip ?_
  cases h
  exact ⟨_, rfl, Weak_keep 0 hm [3, 4, 5, 6, 9, 10, 11, 23] [0] _ _ rfl rfl rfl⟩
 refine ACode_seq ?_
 refine kR ?_
 refine kM 1 rfl ?_
 refine AOps_q 248 _ rfl rfl rfl (QOp_neq _ _ _ _ _ _ _ rfl rfl rfl) ?_
 refine AOps_nil ?_
 refine kI h rfl (fun h _ => ?_) (fun h _ => ?_)
 ·refine kL (fun s61 => [(2, bV s61)]) (fun s61 => []) h (fun s61 h => ?_) (fun s61 h => ?_)
  ·refine (ACode_region ?_)
   refine kM 1 rfl ?_
   refine AOps_q 250 _ rfl rfl rfl (QOp_len_sl _ _ _ _ _ _ _ (rowsD_length _) rfl rfl rfl rfl Try.underlying45 rfl) ?_
   refine AOps_q 251 _ rfl rfl rfl (QOp_eql _ _ _ _ _ _ _ rfl rfl rfl) ?_
   refine kM 1 rfl ?_
   refine AOps_case 252 _ rfl (fun hb60 => ?_) (fun hb60 => ?_)
   ·have h := iteT hb60 h
    refine kM 2 rfl ?_
    refine AOps_q 255 _ rfl rfl rfl (QOp_eql _ _ _ _ _ _ _ rfl rfl rfl) ?_
    refine kN 2 rfl ?_
    cases h
    exact Weak_keep 0 hm [2] [] _ _ rfl rfl rfl
   have h := iteF hb60 h
   refine AOps_skip 253 rfl rfl rfl ?_
   refine AOps_skip 254 rfl rfl rfl ?_
   refine AOps_skip 255 rfl rfl rfl ?_
   refine kN 2 rfl ?_
   cases h
   exact Weak_keep 0 hm [2] [] _ _ rfl rfl rfl
  refine ACode_ret ?_
  cases h
  exact ⟨_, _, fun r a w h => ⟨r, h⟩, _, _, [], _, (.cons (ResV_tmp _ _ rfl) .nil), rfl, rfl, rfl, rfl, rfl⟩
 refine ACode_skip ?_
 refine kR ?_
 refine AOps_q 258 _ rfl rfl rfl (QOp_loadN_ptr _ _ _ _ _ _ _ rfl Try.isAgg27 Try.sizeOf27 rfl rfl (colD_all _) (colD_length _)) ?_
 refine kM 2 rfl ?_
 obtain ⟨r62, hr62, h⟩ := bindO h
 refine kC [] 261 (.tup [.d (.sl none (intsD (r62.1.getD []))), iV r62.2]) [.box (colD r3.1)] rfl Try.call35 rfl rfl (AC_frz rfl (frz_cons frz_nil) (impl_NeighboursOf_ac k r3.1 r11.1 r3.2 _ hr62)) rfl ?_
 refine kN 5 rfl ?_
 refine kO (fun s69 => [(3, .ptr 0 0), (4, iV r3.2), (5, .d (.sl none (rowsD (r4.1.getD []))))]) (fun s69 => [.box (colD r3.1)]) h (fun os69 h hks69 => ?_) (fun s69 h => ?_)
 ·refine kL (fun s67 => [(3, .ptr 0 0), (4, iV r3.2), (5, .d (.sl none (rowsD (r4.1.getD [])))), (290, bV s67)]) (fun s67 => [.box (colD r3.1)]) h (fun s67 h => ?_) (fun s67 h => ?_)
  ·refine (ACode_region ?_)
   refine kM 1 rfl ?_
   refine AOps_q 265 _ rfl rfl rfl (QOp_neq _ _ _ _ _ _ _ rfl rfl rfl) ?_
   refine kM 1 rfl ?_
   refine AOps_case 266 _ rfl (fun hb63 => ?_) (fun hb63 => ?_)
   ·have h := iteT hb63 h
    refine AOps_skip 267 rfl rfl rfl ?_
    refine AOps_skip 268 rfl rfl rfl ?_
    refine kM 2 rfl ?_
    refine AOps_skip 271 rfl rfl rfl ?_
    refine AOps_skip 272 rfl rfl rfl ?_
    refine AOps_skip 273 rfl rfl rfl ?_
    refine AOps_skip 274 rfl rfl rfl ?_
    refine kM 2 rfl ?_
    refine AOps_skip 277 rfl rfl rfl ?_
    refine AOps_skip 278 rfl rfl rfl ?_
    refine AOps_skip 279 rfl rfl rfl ?_
    refine AOps_skip 280 rfl rfl rfl ?_
    refine AOps_skip 281 rfl rfl rfl ?_
    refine AOps_skip 282 rfl rfl rfl ?_
    refine kM 2 rfl ?_
    refine AOps_skip 285 rfl rfl rfl ?_
    refine AOps_skip 286 rfl rfl rfl ?_
    refine AOps_skip 287 rfl rfl rfl ?_
    refine AOps_skip 288 rfl rfl rfl ?_
    refine AOps_skip 289 rfl rfl rfl ?_
    refine kN 1 rfl ?_
    cases h
    exact Weak_keep 0 hm [3, 4, 5, 290] [0] _ _ rfl rfl rfl
   have h := iteF hb63 h
   refine kM 1 rfl ?_
   refine AOps_q 268 _ rfl rfl rfl (QOp_neq _ _ _ _ _ _ _ rfl rfl rfl) ?_
   refine kM 2 rfl ?_
   refine AOps_case 270 _ rfl (fun hb64 => ?_) (fun hb64 => ?_)
   ·have h := iteT hb64 h
    refine AOps_skip 271 rfl rfl rfl ?_
    refine AOps_skip 272 rfl rfl rfl ?_
    refine AOps_skip 273 rfl rfl rfl ?_
    refine AOps_skip 274 rfl rfl rfl ?_
    refine kM 2 rfl ?_
    refine AOps_skip 277 rfl rfl rfl ?_
    refine AOps_skip 278 rfl rfl rfl ?_
    refine AOps_skip 279 rfl rfl rfl ?_
    refine AOps_skip 280 rfl rfl rfl ?_
    refine AOps_skip 281 rfl rfl rfl ?_
    refine AOps_skip 282 rfl rfl rfl ?_
    refine kM 2 rfl ?_
    refine AOps_skip 285 rfl rfl rfl ?_
    refine AOps_skip 286 rfl rfl rfl ?_
    refine AOps_skip 287 rfl rfl rfl ?_
    refine AOps_skip 288 rfl rfl rfl ?_
    refine AOps_skip 289 rfl rfl rfl ?_
    refine kN 1 rfl ?_
    cases h
    exact Weak_keep 0 hm [3, 4, 5, 290] [0] _ _ rfl rfl rfl
   have h := iteF hb64 h
   refine kM 1 rfl ?_
   refine AOps_q 272 _ rfl rfl rfl (QOp_len_sl _ _ _ _ _ _ _ (intsD_length _) rfl rfl rfl rfl Try.underlying34 rfl) ?_
   refine kM 1 rfl ?_
   refine AOps_q 274 _ rfl rfl rfl (QOp_neq _ _ _ _ _ _ _ rfl rfl rfl) ?_
   refine kM 2 rfl ?_
   refine AOps_case 276 _ rfl (fun hb65 => ?_) (fun hb65 => ?_)
   ·have h := iteT hb65 h
    refine AOps_skip 277 rfl rfl rfl ?_
    refine AOps_skip 278 rfl rfl rfl ?_
    refine AOps_skip 279 rfl rfl rfl ?_
    refine AOps_skip 280 rfl rfl rfl ?_
    refine AOps_skip 281 rfl rfl rfl ?_
    refine AOps_skip 282 rfl rfl rfl ?_
    refine kM 2 rfl ?_
    refine AOps_skip 285 rfl rfl rfl ?_
    refine AOps_skip 286 rfl rfl rfl ?_
    refine AOps_skip 287 rfl rfl rfl ?_
    refine AOps_skip 288 rfl rfl rfl ?_
    refine AOps_skip 289 rfl rfl rfl ?_
    refine kN 1 rfl ?_
    cases h
    exact Weak_keep 0 hm [3, 4, 5, 290] [0] _ _ rfl rfl rfl
   have h := iteF hb65 h
   refine kM 1 rfl ?_
   refine AOps_q 278 _ rfl rfl rfl (QOp_gtr _ _ _ _ _ _ _ rfl rfl rfl) ?_
   refine kM 1 rfl ?_
   refine AOps_q 280 _ rfl rfl rfl (QOp_len_sl _ _ _ _ _ _ _ (rowsD_length _) rfl rfl rfl rfl Try.underlying45 rfl) ?_
   refine AOps_q 281 _ rfl rfl rfl (QOp_gtr _ _ _ _ _ _ _ rfl rfl rfl) ?_
   refine AOps_q 282 _ rfl rfl rfl (QOp_bneq _ _ _ _ _ _ rfl rfl rfl Try.underlying4) ?_
   refine kM 2 rfl ?_
   refine AOps_case 284 _ rfl (fun hb66 => ?_) (fun hb66 => ?_)
   ·have h := iteT hb66 h
    refine AOps_skip 285 rfl rfl rfl ?_
    refine AOps_skip 286 rfl rfl rfl ?_
    refine AOps_skip 287 rfl rfl rfl ?_
    refine AOps_skip 288 rfl rfl rfl ?_
    refine AOps_skip 289 rfl rfl rfl ?_
    refine kN 1 rfl ?_
    cases h
    exact Weak_keep 0 hm [3, 4, 5, 290] [0] _ _ rfl rfl rfl
   have h := iteF hb66 h
   refine kM 1 rfl ?_
   refine AOps_q 286 _ rfl rfl rfl (QOp_gtr _ _ _ _ _ _ _ rfl rfl rfl) ?_
   refine kM 1 rfl ?_
   refine AOps_q 288 _ rfl rfl rfl (QOp_eql _ _ _ _ _ _ _ rfl rfl rfl) ?_
   refine AOps_q 289 _ rfl rfl rfl (QOp_bneq _ _ _ _ _ _ rfl rfl rfl Try.underlying4) ?_
   refine kN 1 rfl ?_
   cases h
   exact Weak_keep 0 hm [3, 4, 5, 290] [0] _ _ rfl rfl rfl
  refine kI h rfl (fun h _ => ?_) (fun h _ => ?_)
  ·refine kR ?_
   refine kN 1 rfl ?_
   refine ACode_ret ?_
   cases h
   have h := hks69
   cases h
   exact ⟨_, _, fun r a w h => ⟨r, h⟩, _, _, [], _, (.cons (ResV_tmp _ _ rfl) .nil), rfl, rfl, rfl, rfl, rfl⟩
  refine ACode_skip ?_
  cases h
  exact ⟨_, rfl, Weak_keep 0 hm [3, 4, 5] [0] _ _ rfl rfl rfl⟩
 refine kR ?_
 refine AOps_q 291 _ rfl rfl rfl (QOp_fieldAddr_ptr _ _ _ _ _ _ 0 _ _ rfl Try.underlying27 rfl _ Try.sizeOf2 rfl rfl rfl rfl) ?_
 refine AOps_q 292 _ rfl rfl rfl (QOp_load_ptr _ _ _ _ _ _ rfl Try.isAgg2 rfl rfl rfl) ?_
 obtain ⟨hc70, h⟩ := guardO h
 refine AOps_makeSliceG bosD bD false (bosD_rep · _) 293 _ _ _ _ _ _ r3.1.p r3.1.p _ (.bool false) rfl rfl rfl rfl rfl rfl Try.underlying56 Try.type4 rfl rfl (by decide) rfl rfl hc70.1 hc70.2.1 hc70.2.2 ?_
 refine kN 1 rfl ?_
 refine kO (fun s90 => [(3, .ptr 0 0), (4, iV r3.2), (5, .d (.sl none (rowsD (r4.1.getD []))))]) (fun s90 => [.box (colD r3.1)]) h (fun os90 h hks90 => ?_) (fun s90 h => ?_)
 ·refine kR ?_
  refine kN 1 rfl ?_
  refine ACode_block ?_
  refine ACode_loopW (fun k0 E H => ∃ (x71 : Int) (x72 : List Bool), E = [(3, .ptr 0 0), (4, iV r3.2), (5, .d (.sl none (rowsD (r4.1.getD [])))), (42, .vec 1 0), (43, iV x71)] ∧ H = [.box (colD r3.1), .vec 0 (bosD x72)] ∧ laws_FnPatterns_l0 k r3 r4 k0 x71 x72 = some os90) k _ _ (Weak_keep 0 hm [3, 4, 5, 42, 43] [0, 1] _ _ rfl rfl rfl) ⟨_, _, rfl, rfl, h⟩ ?_
  clear h
  rintro k0 E H ⟨x71, x72, rfl, rfl, h⟩
  cases k0 with
  | zero => cases (show (none : Option (Sum (Unit) (Bool))) = some _ from h)
  | succ k0 =>
   rw [laws_FnPatterns_l0] at h
   refine ACode_seq ?_
   refine kR ?_
   refine kM 2 rfl ?_
   refine AOps_q 296 _ rfl rfl rfl (QOp_len_sl _ _ _ _ _ _ _ (rowsD_length _) rfl rfl rfl rfl Try.underlying45 rfl) ?_
   refine AOps_q 297 _ rfl rfl rfl (QOp_lss _ _ _ _ _ _ _ rfl rfl rfl) ?_
   refine AOps_nil ?_
   refine kI h rfl (fun h _ => ?_) (fun h _ => ?_)
   ·refine ACode_skip ?_
    refine kO (fun s89 => [(3, .ptr 0 0), (4, iV r3.2), (5, .d (.sl none (rowsD (r4.1.getD [])))), (42, .vec 1 0), (43, iV x71)]) (fun s89 => [.box (colD r3.1), .vec 0 (bosD ((x72.set (((r4.1.getD []).getD x71.toNat []).getD (0 : Int).toNat 0).toNat true).set (((r4.1.getD []).getD x71.toNat []).getD (1 : Int).toNat 0).toNat true))]) h (fun os89 h hks89 => ?_) (fun s89 h => ?_)
    ·refine ACode_block ?_
     refine ACode_seq (ACode_quiet mixed (by kernel_rfl) ?_)
     refine kQ 2 rfl ?_
     obtain ⟨hc74, h⟩ := guardO h
     refine AQ_q 302 _ rfl rfl rfl (QOp_indexAddr_sl _ _ _ _ _ _ _ _ rfl Try.underlying45 Try.sizeOf34 hc74.1 (by rw [rowsD_length]; exact hc74.2) rfl rfl) ?_
     refine AQ_q 303 _ rfl rfl rfl (QOp_load_pv _ _ _ _ _ rfl Try.isAgg34 rfl (rowsD_get _ _ [] (by omega))) ?_
     obtain ⟨hc75, h⟩ := guardO h
     refine AQ_q 304 _ rfl rfl rfl (QOp_indexAddr_sl _ _ _ _ _ _ _ _ rfl Try.underlying34 Try.sizeOf2 hc75.1 (by rw [intsD_length]; exact hc75.2) rfl rfl) ?_
     refine AQ_q 305 _ rfl rfl rfl (QOp_load_pv _ _ _ _ _ rfl Try.isAgg2 rfl (intsD_get _ _ 0 (by omega))) ?_
     refine kQ 2 rfl ?_
     obtain ⟨hc76, h⟩ := guardO h
     refine AQ_q 308 _ rfl rfl rfl (QOp_indexAddr_sl _ _ _ _ _ _ _ _ rfl Try.underlying45 Try.sizeOf34 hc76.1 (by rw [rowsD_length]; exact hc76.2) rfl rfl) ?_
     refine AQ_q 309 _ rfl rfl rfl (QOp_load_pv _ _ _ _ _ rfl Try.isAgg34 rfl (rowsD_get _ _ [] (by omega))) ?_
     obtain ⟨hc77, h⟩ := guardO h
     refine AQ_q 310 _ rfl rfl rfl (QOp_indexAddr_sl _ _ _ _ _ _ _ _ rfl Try.underlying34 Try.sizeOf2 hc77.1 (by rw [intsD_length]; exact hc77.2) rfl rfl) ?_
     refine AQ_q 311 _ rfl rfl rfl (QOp_load_pv _ _ _ _ _ rfl Try.isAgg2 rfl (intsD_get _ _ 0 (by omega))) ?_
     refine kQ 2 rfl ?_
     refine AQ_nil ?_
     refine kR ?_
     refine AOps_q 313 _ rfl rfl rfl (QOp_loadN_ptr _ _ _ _ _ _ _ rfl Try.isAgg27 Try.sizeOf27 rfl rfl (colD_all _) (colD_length _)) ?_
     refine kM 2 rfl ?_
     obtain ⟨r78, hr78, h⟩ := bindO h
     refine kC [] 316 (.tup [iV r78.1, iV r78.2]) [.box (colD r3.1), .vec 0 (bosD x72)] rfl Try.call22 rfl rfl (impl_ColourOf_ac k r3.1 (((r4.1.getD []).getD x71.toNat []).getD (0 : Int).toNat 0) (((r4.1.getD []).getD x71.toNat []).getD (1 : Int).toNat 0) _ hr78) rfl ?_
     refine kN 5 rfl ?_
     refine kO (fun s86 => [(3, .ptr 0 0), (4, iV r3.2), (5, .d (.sl none (rowsD (r4.1.getD [])))), (42, .vec 1 0), (43, iV x71), (44, iV (((r4.1.getD []).getD x71.toNat []).getD (0 : Int).toNat 0)), (45, iV (((r4.1.getD []).getD x71.toNat []).getD (1 : Int).toNat 0))]) (fun s86 => [.box (colD r3.1), .vec 0 (bosD x72)]) h (fun os86 h hks86 => ?_) (fun s86 h => ?_)
     ·refine kB (fun s84 => [(3, .ptr 0 0), (4, iV r3.2), (5, .d (.sl none (rowsD (r4.1.getD [])))), (42, .vec 1 0), (43, iV x71), (44, iV (((r4.1.getD []).getD x71.toNat []).getD (0 : Int).toNat 0)), (45, iV (((r4.1.getD []).getD x71.toNat []).getD (1 : Int).toNat 0)), (337, bV s84)]) (fun s84 => [.box (colD r3.1), .vec 0 (bosD x72)]) h (fun s84 h => ?_) (fun s84 h => ?_)
      ·refine (ACode_region ?_)
       refine kM 1 rfl ?_
       refine AOps_q 320 _ rfl rfl rfl (QOp_neq _ _ _ _ _ _ _ rfl rfl rfl) ?_
       refine kM 1 rfl ?_
       refine AOps_case 321 _ rfl (fun hb79 => ?_) (fun hb79 => ?_)
       ·have h := iteT hb79 h
        refine AOps_skip 322 rfl rfl rfl ?_
        refine AOps_skip 323 rfl rfl rfl ?_
        refine AOps_skip 324 rfl rfl rfl ?_
        refine kM 2 rfl ?_
        refine AOps_skip 327 rfl rfl rfl ?_
        refine AOps_skip 328 rfl rfl rfl ?_
        refine AOps_skip 329 rfl rfl rfl ?_
        refine AOps_skip 330 rfl rfl rfl ?_
        refine kM 2 rfl ?_
        refine AOps_skip 333 rfl rfl rfl ?_
        refine AOps_skip 334 rfl rfl rfl ?_
        refine AOps_skip 335 rfl rfl rfl ?_
        refine AOps_skip 336 rfl rfl rfl ?_
        refine kN 1 rfl ?_
        cases h
        exact Weak_keep 0 hm [3, 4, 5, 42, 43, 44, 45, 337] [0, 1] _ _ rfl rfl rfl
       have h := iteF hb79 h
       refine kM 2 rfl ?_
       refine AOps_q 324 _ rfl rfl rfl (QOp_neq _ _ _ _ _ _ _ rfl rfl rfl) ?_
       refine kM 2 rfl ?_
       refine AOps_case 326 _ rfl (fun hb80 => ?_) (fun hb80 => ?_)
       ·have h := iteT hb80 h
        refine AOps_skip 327 rfl rfl rfl ?_
        refine AOps_skip 328 rfl rfl rfl ?_
        refine AOps_skip 329 rfl rfl rfl ?_
        refine AOps_skip 330 rfl rfl rfl ?_
        refine kM 2 rfl ?_
        refine AOps_skip 333 rfl rfl rfl ?_
        refine AOps_skip 334 rfl rfl rfl ?_
        refine AOps_skip 335 rfl rfl rfl ?_
        refine AOps_skip 336 rfl rfl rfl ?_
        refine kN 1 rfl ?_
        cases h
        exact Weak_keep 0 hm [3, 4, 5, 42, 43, 44, 45, 337] [0, 1] _ _ rfl rfl rfl
       have h := iteF hb80 h
       refine kM 2 rfl ?_
       obtain ⟨hc81, h⟩ := guardO h
       refine AOps_q 329 _ rfl rfl rfl (QOp_indexAddr_vec _ _ _ _ _ _ _ _ _ rfl Try.underlying56 Try.sizeOf4 hc81.1 (by rw [bosD_length]; exact hc81.2) rfl rfl rfl) ?_
       refine AOps_q 330 _ rfl rfl rfl (QOp_load_eptr _ _ _ _ _ _ _ rfl Try.isAgg4 rfl rfl (bosD_get _ _ false (by omega))) ?_
       refine kM 2 rfl ?_
       refine AOps_case 332 _ rfl (fun hb82 => ?_) (fun hb82 => ?_)
       ·have h := iteT hb82 h
        refine AOps_skip 333 rfl rfl rfl ?_
        refine AOps_skip 334 rfl rfl rfl ?_
        refine AOps_skip 335 rfl rfl rfl ?_
        refine AOps_skip 336 rfl rfl rfl ?_
        refine kN 1 rfl ?_
        cases h
        exact Weak_keep 0 hm [3, 4, 5, 42, 43, 44, 45, 337] [0, 1] _ _ rfl rfl rfl
       have h := iteF hb82 h
       refine kM 2 rfl ?_
       obtain ⟨hc83, h⟩ := guardO h
       refine AOps_q 335 _ rfl rfl rfl (QOp_indexAddr_vec _ _ _ _ _ _ _ _ _ rfl Try.underlying56 Try.sizeOf4 hc83.1 (by rw [bosD_length]; exact hc83.2) rfl rfl rfl) ?_
       refine AOps_q 336 _ rfl rfl rfl (QOp_load_eptr _ _ _ _ _ _ _ rfl Try.isAgg4 rfl rfl (bosD_get _ _ false (by omega))) ?_
       refine kN 1 rfl ?_
       cases h
       exact Weak_keep 0 hm [3, 4, 5, 42, 43, 44, 45, 337] [0, 1] _ _ rfl rfl rfl
      refine kI h rfl (fun h _ => ?_) (fun h _ => ?_)
      ·refine kR ?_
       refine kN 1 rfl ?_
       refine ACode_ret ?_
       obtain ⟨rr, hz98, h2⟩ := bindO h
       obtain rfl := Option.some.inj h2
       obtain rfl := Option.some.inj (show some rr = some _ from hks86)
       have h := hz98
       obtain ⟨rr, hz97, h2⟩ := bindO h
       obtain rfl := Option.some.inj h2
       obtain rfl := Option.some.inj (show some rr = some _ from hks89)
       have h := hz97
       cases h
       have h := hks90
       cases h
       exact ⟨_, _, fun r a w h => ⟨r, h⟩, _, _, [], _, (.cons (ResV_tmp _ _ rfl) .nil), rfl, rfl, rfl, rfl, rfl⟩
      refine ACode_skip ?_
      cases h
      exact ⟨_, rfl, Weak_keep 0 hm [3, 4, 5, 42, 43, 44, 45] [0, 1] _ _ rfl rfl rfl⟩
     refine kR ?_
     refine kM 2 rfl ?_
     obtain ⟨hc87, h⟩ := guardO h
     refine AOps_q 340 _ rfl rfl rfl (QOp_indexAddr_vec _ _ _ _ _ _ _ _ _ rfl Try.underlying56 Try.sizeOf4 hc87.1 (by rw [bosD_length]; exact hc87.2) rfl rfl rfl) ?_
     refine AOps_store_eptr _ _ _ _ _ _ (bosD x72) _ rfl rfl rfl rfl rfl rfl rfl Try.sizeOf4 (by rw [bosD_length]; omega) ?_
     rw [bosD_set]
     refine AOps_nil ?_
     refine (ACode_region ?_)
     refine kM 2 rfl ?_
     obtain ⟨hc88, h⟩ := guardO h
     refine AOps_q 343 _ rfl rfl rfl (QOp_indexAddr_vec _ _ _ _ _ _ _ _ _ rfl Try.underlying56 Try.sizeOf4 hc88.1 (by rw [bosD_length]; exact hc88.2) rfl rfl rfl) ?_
     refine AOps_store_eptr _ _ _ _ _ _ (bosD (x72.set (((r4.1.getD []).getD x71.toNat []).getD (0 : Int).toNat 0).toNat true)) _ rfl rfl rfl rfl rfl rfl rfl Try.sizeOf4 (by rw [bosD_length]; omega) ?_
     rw [bosD_set]
     refine AOps_nil ?_
     cases h
     exact ⟨_, rfl, Weak_keep 0 hm [3, 4, 5, 42, 43] [0, 1] _ _ rfl rfl rfl⟩
    refine (ACode_region ?_)
    refine kM 1 rfl ?_
    refine AOps_q 299 _ rfl rfl rfl (QOp_add _ _ _ _ _ _ _ rfl rfl rfl) ?_
    refine kN 1 rfl ?_
    exact ⟨k0, _, _, Nat.lt_succ_self _, Weak_keep 0 hm [3, 4, 5, 42, 43] [0, 1] _ _ rfl rfl rfl, _, _, rfl, rfl, h⟩
   refine ACode_exit ?_
   cases h
   exact ⟨_, rfl, Weak_keep 0 hm [3, 4, 5] [0] _ _ rfl rfl rfl⟩
 refine ACode_seq ?_
 refine kR ?_
 refine AOps_q 344 _ rfl rfl rfl (QOp_fieldAddr_ptr _ _ _ _ _ _ 1 _ _ rfl Try.underlying27 rfl _ Try.sizeOf2 rfl rfl rfl rfl) ?_
 refine AOps_q 345 _ rfl rfl rfl (QOp_load_ptr _ _ _ _ _ _ rfl Try.isAgg2 rfl rfl rfl) ?_
 refine AOps_q 346 _ rfl rfl rfl (QOp_neq _ _ _ _ _ _ _ rfl rfl rfl) ?_
 refine AOps_nil ?_
 refine kI h rfl (fun h _ => ?_) (fun h _ => ?_)
 ·refine kR ?_
  refine kN 1 rfl ?_
  refine ACode_ret ?_
  cases h
  exact ⟨_, _, fun r a w h => ⟨r, h⟩, _, _, [], _, (.cons (ResV_tmp _ _ rfl) .nil), rfl, rfl, rfl, rfl, rfl⟩
 refine ACode_skip ?_
 refine kR ?_
 refine AOps_q 348 _ rfl rfl rfl (QOp_loadN_ptr _ _ _ _ _ _ _ rfl Try.isAgg27 Try.sizeOf27 rfl rfl (colD_all _) (colD_length _)) ?_
 refine kM 1 rfl ?_
 refine AOps_q 350 _ rfl rfl rfl (QOp_sub _ _ _ _ _ _ _ rfl rfl rfl) ?_
 obtain ⟨r92, hr92, h⟩ := bindO h
 refine kC [] 351 (.tup [.d (.sl none (rowsD (r92.1.getD []))), iV r92.2]) [.box (colD r3.1)] rfl Try.call24 rfl rfl (AC_frz rfl (frz_cons frz_nil) (impl_GreatestMatching_ac k r3.1 (w64 (1 - r3.2)) _ hr92)) rfl ?_
 refine kN 5 rfl ?_
 refine kR ?_
 refine kM 1 rfl ?_
 refine AOps_q 356 _ rfl rfl rfl (QOp_len_sl _ _ _ _ _ _ _ (rowsD_length _) rfl rfl rfl rfl Try.underlying45 rfl) ?_
 refine AOps_q 357 _ rfl rfl rfl (QOp_add _ _ _ _ _ _ _ rfl rfl rfl) ?_
 refine kM 1 rfl ?_
 refine AOps_q 359 _ rfl rfl rfl (QOp_len_sl _ _ _ _ _ _ _ (rowsD_length _) rfl rfl rfl rfl Try.underlying45 rfl) ?_
 refine AOps_q 360 _ rfl rfl rfl (QOp_add _ _ _ _ _ _ _ rfl rfl rfl) ?_
 refine kC [] 361 (.tup [iV ((impl_MatchingNumber (w64 (((r4.1.getD []).length : Int) + 1)) (w64 (((r92.1.getD []).length : Int) + 1))).1), iV ((impl_MatchingNumber (w64 (((r4.1.getD []).length : Int) + 1)) (w64 (((r92.1.getD []).length : Int) + 1))).2)]) [.box (colD r3.1)] rfl Try.call36 rfl rfl (impl_MatchingNumber_ac (w64 (((r4.1.getD []).length : Int) + 1)) (w64 (((r92.1.getD []).length : Int) + 1))) rfl ?_
 refine kN 5 rfl ?_
 refine kL (fun s96 => [(2, bV s96)]) (fun s96 => []) h (fun s96 h => ?_) (fun s96 h => ?_)
 ·refine (ACode_region ?_)
  refine kM 1 rfl ?_
  refine AOps_q 365 _ rfl rfl rfl (QOp_eql _ _ _ _ _ _ _ rfl rfl rfl) ?_
  refine kM 1 rfl ?_
  refine AOps_case 366 _ rfl (fun hb94 => ?_) (fun hb94 => ?_)
  ·have h := iteT hb94 h
   refine kM 1 rfl ?_
   refine AOps_q 368 _ rfl rfl rfl (QOp_eql _ _ _ _ _ _ _ rfl rfl rfl) ?_
   refine kM 2 rfl ?_
   refine AOps_case 370 _ rfl (fun hb95 => ?_) (fun hb95 => ?_)
   ·have h := iteT hb95 h
    refine AOps_q 371 _ rfl rfl rfl (QOp_fieldAddr_ptr _ _ _ _ _ _ 0 _ _ rfl Try.underlying27 rfl _ Try.sizeOf2 rfl rfl rfl rfl) ?_
    refine AOps_q 372 _ rfl rfl rfl (QOp_load_ptr _ _ _ _ _ _ rfl Try.isAgg2 rfl rfl rfl) ?_
    refine kM 1 rfl ?_
    refine AOps_q 374 _ rfl rfl rfl (QOp_lss _ _ _ _ _ _ _ rfl rfl rfl) ?_
    refine kN 2 rfl ?_
    cases h
    exact Weak_keep 0 hm [2] [] _ _ rfl rfl rfl
   have h := iteF hb95 h
   refine AOps_skip 371 rfl rfl rfl ?_
   refine AOps_skip 372 rfl rfl rfl ?_
   refine AOps_skip 373 rfl rfl rfl ?_
   refine AOps_skip 374 rfl rfl rfl ?_
   refine kN 2 rfl ?_
   cases h
   exact Weak_keep 0 hm [2] [] _ _ rfl rfl rfl
  have h := iteF hb94 h
  refine AOps_skip 367 rfl rfl rfl ?_
  refine AOps_skip 368 rfl rfl rfl ?_
  refine kM 2 rfl ?_
  refine AOps_skip 371 rfl rfl rfl ?_
  refine AOps_skip 372 rfl rfl rfl ?_
  refine AOps_skip 373 rfl rfl rfl ?_
  refine AOps_skip 374 rfl rfl rfl ?_
  refine kN 2 rfl ?_
  cases h
  exact Weak_keep 0 hm [2] [] _ _ rfl rfl rfl
 refine ACode_ret ?_
 cases h
 exact ⟨_, _, fun r a w h => ⟨r, h⟩, _, _, [], _, (.cons (ResV_tmp _ _ rfl) .nil), rfl, rfl, rfl, rfl, rfl⟩

end Go.Proofs.Ytghhnpdhehjlaaa
