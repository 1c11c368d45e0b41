/- Plain function of impl.PointOrbits and that the program computes it: a table whose rows grow in place. No conditions. -/
import Derived.Test.YtldgmcghdohmeaaGreatMg30
import Derived.Test.YtldgmcghdohmeaaGreatAb35
import Derived.Test.YtldgmcghdohmeaaGreatGen43
set_option linter.unusedVariables false
set_option linter.unusedSimpArgs false
namespace Go.Proofs.YtldgmcghdohmeaaGreat
open Go Go.RowKit Ab

def impl_PointOrbits_put (T : List (List Int)) (j r : Int) : Option (List (List Int)) :=
 if decide (r < 0) then (if T.length + 1 ≤ 1099511627776 then some (T ++ [[j]]) else none) else (if 0 ≤ r ∧ r < (T.length : Int) then (if (T.getD r.toNat []).length + 1 ≤ 1099511627776 then some (T.set r.toNat (T.getD r.toNat [] ++ [j])) else none) else none)
def impl_PointOrbits_l0 (k : Nat) (p0 : Col) : Nat → Int → List (List Int) → Option (List (List Int))
 | 0, _, _ => none
 | k0 + 1, x15, T => if decide (x15 < p0.p) then (slices_IndexFunc_R k T (fun a0 => impl_PointOrbits_c1 k a0 p0 x15)).bind fun r => (impl_PointOrbits_put T x15 r).bind fun T' => impl_PointOrbits_l0 k p0 k0 (w64 (x15 + 1)) T' else some T
def impl_PointOrbits (k : Nat) (p0 : Col) : Option (Option (List (List Int)) × Int) :=
 (impl_Colouring_code k p0 (some (impl_always))).bind fun r1 => if !decide (r1 = 0) then some (none, r1) else (impl_PointOrbits_l0 k p0 k 0 []).bind fun T => some (some T, 0)

theorem hdD_set (l : List (Nat × Nat × Nat)) (i : Nat) (p : Nat × Nat × Nat) : (hdD l).set i (hX p) = hdD (l.set i p) := by unfold hdD; rw [List.map_set]

theorem env_mem : ∀ (E0 : Env) (t : Nat) (v : AV), Env.get E0 t = some v → (t, v) ∈ E0
 | [], t, v, h => by simp [Env.get] at h
 | (a, b) :: E0, t, v, h => by
  by_cases e : a = t
  ·subst e
   rw [Env.get_cons_self] at h
   cases h
   exact List.mem_cons_self ..
  ·rw [Env.get_cons_ne _ _ e] at h
   exact List.mem_cons_of_mem _ (env_mem E0 t v h)
theorem Weak_sub {n : Nat} {G : Ctx} {E E0 : Env} {H : List AObj} (h : ∀ p ∈ E0, E.get p.1 = some p.2) : Weak n G E H E0 H := fun r a w hr =>
 ⟨r, hr.size, hr.defers, fun k u hu => hr.env k u (h _ (env_mem _ _ _ hu)), hr.heap, hr.step⟩

set_option maxRecDepth 100000 in
theorem impl_PointOrbits_ac (k : Nat) (p0 : Col) (r : Option (List (List Int)) × Int) (h : impl_PointOrbits k p0 = some r) : AC Tryz.prog 9 [.d (.agg (colD p0))] [] (fun res H' => res = [ownA 0 (r.1.map rowsD), iV r.2] ∧ H' = [] ++ ownH (r.1.map rowsD)) := by
 refine AC_of_bodyN false Tryz.func9 rfl Tryz.ntmps9 (rvs := [.tmp 2, .tmp 3]) rfl rfl (fun G hG hF => ?_)
 have hm : G.H.length = 0 := by rw [hG]; rfl
 have hz : zeroG G.H = true := by rw [hG]; rfl
 unfold impl_PointOrbits at h
 refine kR ?_
 refine AOps_boxI 1 _ _ (.agg (colD p0)) (colD p0) rfl (colD_one _) rfl rfl rfl rfl rfl ?_
 refine kN 2 rfl ?_
 refine ACode_seq ?_
 refine kR ?_
 obtain ⟨r1, hr1, h⟩ := bindO h
 refine kC [] 8 (iV r1) [] rfl Tryz.call27 rfl rfl (impl_Colouring_code_ac k p0 (some (impl_always)) 28 ([]) Tryz.call28 (fun r h => by cases h; exact impl_always_ac) _ hr1) rfl ?_
 refine kN 1 rfl ?_
 refine kR ?_
 refine kM 1 rfl ?_
 refine AOps_q 10 _ rfl rfl rfl (QOp_neq _ _ _ _ _ _ _ rfl rfl rfl) ?_
 refine AOps_nil ?_
 refine kI h rfl (fun h _ => ?_) (fun h _ => ?_)
 ·refine kR ?_
  refine kN 3 rfl ?_
  refine ACode_ret ?_
  cases h
  exact ⟨_, _, fun r a w h => ⟨r, h⟩, _, _, [], _, (.cons (ResV_tmp _ _ rfl) (.cons (ResV_tmp _ _ rfl) .nil)), rfl, rfl, rfl, rfl, rfl⟩
 refine ACode_skip ?_
 refine kR ?_
 refine AOps_buildSlice 12 _ _ _ [] (hdD []) _ rfl rfl rfl rfl rfl (by decide) Tryz.underlying30 Tryz.sizeOf40 (zero_of Tryz.typeInfo40 rfl) rfl rfl (hdD_one _) ?_
 refine kN 1 rfl ?_
 refine ACode_of_MC ?_
 refine MC_weak (E0 := [(1, .d (.pv (colD p0) 0)), (5, .vec 0 0)]) (H0 := [.vec 0 (hdD [])]) (Weak_keep (G := GM G _) 0 hm [1, 5] [0] _ _ rfl rfl rfl) ?_
 obtain ⟨s16, h1, h⟩ := bindO h
 cases h
 refine MC_seqJ (fun E' H' M' => ∃ hd, Weak 40 (GM G M') E' H' [(5, .vec 0 0)] [.vec 0 (hdD hd)] ∧ TabF s16 hd M') ?_ ?_
 ·refine MC_seq (MC_region ?_)
  refine MOps_q 13 _ rfl rfl rfl (fun _ _ => QOp_fieldAddr_pv _ _ _ _ _ 0 _ _ rfl Tryz.underlying26 rfl _ Tryz.sizeOf2 rfl rfl) ?_
  refine MOps_q 14 _ rfl rfl rfl (fun _ _ => QOp_load_pv _ _ _ _ _ rfl Tryz.isAgg2 rfl rfl) ?_
  refine MOps_q 15 _ rfl rfl rfl (fun _ _ => QOp_move _ _ rfl rfl) ?_
  refine MOps_nil ?_
  refine MC_weak (E0 := [(1, .d (.pv (colD p0) 0)), (5, .vec 0 0), (14, iV p0.p), (15, iV 0)]) (H0 := [.vec 0 (hdD [])]) (Weak_keep (G := GM G _) 0 hm [1, 5, 14, 15] [0] _ _ rfl rfl rfl) ?_
  refine MC_block (MC_loop (fun kk E H M => ∃ (x15 : Int) (T : List (List Int)) (hd : List (Nat × Nat × Nat)), E = [(1, .d (.pv (colD p0) 0)), (5, .vec 0 0), (14, iV p0.p), (15, iV x15)] ∧ H = [.vec 0 (hdD hd)] ∧ TabF T hd M ∧ (hd.map (·.1)).Nodup ∧ impl_PointOrbits_l0 k p0 kk x15 T = some s16) k ⟨_, _, [], rfl, rfl, ⟨rfl, fun i hi => by simp at hi⟩, by simp, h1⟩ ?_)
  rintro kk E H M ⟨x15, T, hd, rfl, rfl, hT, hnd, h⟩
  cases kk with
  | zero => cases (show (none : Option (List (List Int))) = some _ from h)
  | succ kk =>
   rw [impl_PointOrbits_l0] at h
   refine MC_seq (MC_region ?_)
   refine MOps_q 16 _ rfl rfl rfl (fun _ _ => QOp_lss _ _ _ _ _ _ _ rfl rfl rfl) ?_
   refine MOps_nil ?_
   refine MC_seq (MC_cond _ rfl (fun hb => ?_) (fun hb => ?_))
   ·have h := iteT hb h
    refine MC_skip ?_
    obtain ⟨r20, hr20, h⟩ := bindO h
    obtain ⟨T', hT', h⟩ := bindO h
    refine MC_seqJ (fun E' H' M' => ∃ hd', Weak 40 (GM G M') E' H' [(1, .d (.pv (colD p0) 0)), (5, .vec 0 0), (14, iV p0.p), (15, iV x15)] [.vec 0 (hdD hd')] ∧ TabF T' hd' M' ∧ (hd'.map (·.1)).Nodup) ?_ ?_
    ·refine MC_block ?_
     refine MC_seq (MC_region ?_)
     refine MOps_q 17 _ rfl rfl rfl (fun _ _ => QOp_move _ _ rfl rfl) ?_
     refine MOps_step (K1 := fun E' H' => E' = _ ∧ H' = _) (fun G' hn => AOps_alloc 6 _ _ ([iD 0]) (zero_of Tryz.typeInfo2 rfl) (by rfl) rfl rfl rfl rfl (AOps_nil ⟨rfl, rfl⟩)) ?_
     rintro _ _ ⟨rfl, rfl⟩
     refine MOps_step (K1 := fun E' H' => E' = _ ∧ H' = _) (fun G' hn => AOps_store1 _ _ _ _ _ _ _ _ rfl rfl rfl rfl rfl rfl rfl Tryz.sizeOf2 (Nat.le_of_ble_eq_true rfl) rfl (AOps_nil ⟨rfl, rfl⟩)) ?_
     rintro _ _ ⟨rfl, rfl⟩
     refine MOps_weak (Weak_frzB (G := GM G _) 1 [(6, .d (.pv [iD x15] 0))] [iD x15] rfl (fun p hp => by cases hp with | head => exact ⟨_, rfl, rfl⟩ | tail _ h => cases h)) ?_
     refine MOps_nil ?_
     refine MC_weak (E0 := [(1, .d (.pv (colD p0) 0)), (5, .vec 0 0), (14, iV p0.p), (15, iV x15), (6, .d (.pv [iD x15] 0))]) (H0 := [.vec 0 (hdD hd)]) (Weak_keep (G := GM G _) 0 hm [1, 5, 14, 15, 6] [0] _ _ rfl rfl rfl) ?_
     refine MC_seq (MC_region ?_)
     refine MOps_q 18 _ rfl rfl rfl (fun _ _ => QOp_move _ _ rfl rfl) ?_
     refine MOps_q 19 _ rfl rfl rfl (fun _ _ => QOp_makeFuncD _ _ _ _ rfl rfl rfl) ?_
     refine MOps_callT hG hF 20 0 0 (.int .i64 r20) [.clo 38 [.pv (colD p0) 0, .pv [iD x15] 0]] rfl rfl rfl rfl rfl rfl rfl Tryz.call37 rfl rfl hT (slices_IndexFunc_R_ac k T (fun a0 => impl_PointOrbits_c1 k a0 p0 x15) 38 [.pv (colD p0) 0, .pv [iD x15] 0] Tryz.call38 (fun a0 r h => impl_PointOrbits_c1_ac k a0 p0 x15 r h) _ hr20) ?_
     refine MOps_q 7 _ rfl rfl rfl (fun _ _ => QOp_assign _ _ rfl rfl) ?_
     refine MOps_nil ?_
     refine MC_seq (MC_region ?_)
     refine MOps_q 21 _ rfl rfl rfl (fun _ _ => QOp_move _ _ rfl rfl) ?_
     refine MOps_q 22 _ rfl rfl rfl (fun _ _ => QOp_lss _ _ _ _ _ _ _ rfl rfl rfl) ?_
     refine MOps_nil ?_
     unfold impl_PointOrbits_put at hT'
     refine MC_cond _ rfl (fun hb2 => ?_) (fun hb2 => ?_)
     ·have hT' := iteT hb2 hT'
      obtain ⟨hc, hT'⟩ := guardO hT'
      cases hT'
      refine MC_region ?_
      refine MOps_q 23 _ rfl rfl rfl (fun _ _ => QOp_move _ _ rfl rfl) ?_
      refine MOps_q 24 _ rfl rfl rfl (fun _ _ => QOp_load_pv _ _ _ _ _ rfl Tryz.isAgg2 rfl rfl) ?_
      refine MOps_step (K1 := fun E' H' => E' = _ ∧ H' = _) (fun G' hn => AOps_buildSlice 25 _ _ _ [_] (intsD ([x15])) _ rfl rfl rfl rfl rfl (by decide) Tryz.underlying40 Tryz.sizeOf2 (zero_of Tryz.typeInfo2 rfl) rfl rfl (intsD_one _) (AOps_nil ⟨rfl, rfl⟩)) ?_
      rintro _ _ ⟨rfl, rfl⟩
      refine MOps_abandonI hG 25 1 0 [x15] rfl rfl (fun b vs hb1 hrow1 => ?_)
      refine MOps_step (K1 := fun E' H' => E' = _ ∧ H' = _) (fun G' hn => AOps_buildSlice 26 _ _ _ [_] (hdD [(b, ([x15] : List Int).length, vs.size)]) _ rfl rfl rfl rfl rfl (by decide) Tryz.underlying30 Tryz.sizeOf40 (zero_of Tryz.typeInfo40 rfl) rfl rfl (hdD_one _) (AOps_nil ⟨rfl, rfl⟩)) ?_
      rintro _ _ ⟨rfl, rfl⟩
      refine MOps_step (K1 := fun E' H' => E' = _ ∧ H' = _) (fun G' hn => AOps_append 27 _ _ _ _ _ _ _ _ _ _ _ _ rfl rfl rfl rfl rfl rfl rfl Tryz.underlying30 Tryz.type40 rfl rfl rfl (by decide) rfl rfl rfl rfl (hdD_one _) (by rw [hdD_length, hdD_length]; have := hT.1; simp; omega) (AOps_nil ⟨rfl, rfl⟩)) ?_
      rintro _ _ ⟨rfl, rfl⟩
      rw [hdD_app]
      refine MOps_q 5 _ rfl rfl rfl (fun _ _ => QOp_assign _ _ rfl rfl) ?_
      refine MOps_nil ?_
      exact ⟨hd ++ [(b, ([x15] : List Int).length, vs.size)], Weak_trans (Weak_keep (G := GM G _) 0 hm [1, 5, 14, 15] [0] _ _ rfl rfl rfl) (Weak_reset (G := GM G _) 0 hm hz [1, 5, 14, 15] _ _ rfl rfl), tab_snoc hT hrow1, tab_nodup hnd hT hb1⟩
     ·have hT' := iteF hb2 hT'
      obtain ⟨hc1, hT'⟩ := guardO hT'
      obtain ⟨hc2, hT'⟩ := guardO hT'
      cases hT'
      have hjl : r20.toNat < hd.length := by have := hT.1; omega
      obtain ⟨vs, hmem, a1, a2, a3, a4, a5⟩ := hT.2 r20.toNat hjl
      obtain ⟨M1, M2, rfl⟩ := List.append_of_mem hmem
      obtain ⟨own, hown⟩ : ∃ own, own = T.getD r20.toNat [] := ⟨_, rfl⟩
      rw [← hown] at a1 a3 a5 hc2
      have htr := tab_rest hnd hjl hT
      have hzl : (own.map (Value.int .i64)).length = own.length := List.length_map ..
      refine MC_lastU (l := [_, _, _, _, _, _, _, _, _, _]) mixed (by kernel_rfl) hG hF (hd.getD r20.toNat (0, 0, 0)).1 M1 M2 vs (own.map (Value.int .i64)) rfl (by rw [hzl]; exact a3) a4 (by rw [hzl]; exact a5) (fun G' hGH hn => ?_)
      rw [← intsD_s] at hGH ⊢
      have hmi : G'.H.length = 2 := by rw [hGH]; rfl
      have hzi : zeroG G'.H = true := by rw [hGH]; rfl
      have hgd : (hdD hd)[r20.toNat]? = some (hX (hd.getD r20.toNat (0, 0, 0))) := hdD_get hd r20.toNat (0, 0, 0) hjl
      have hhx : hX (hd.getD r20.toNat (0, 0, 0)) = hdr (hd.getD r20.toNat (0, 0, 0)).1 (own.map (Value.int .i64)).length vs.size := by unfold hX hdr; rw [a1, a2, hzl]
      rw [hhx] at hgd
      generalize hd.getD r20.toNat (0, 0, 0) = pp at *
      have hL : r20.toNat < (hdD hd).length := by rw [hdD_length]; exact hjl
      have hLi : r20 < ((hdD hd).length : Int) := by omega
      refine AU_u 0 28 _ rfl (by kernel_rfl) rfl rfl rfl (UOp_move _ _ rfl rfl) ?_
      refine AU_u 1 29 _ rfl (by kernel_rfl) rfl rfl rfl (UOp_move _ _ rfl rfl) ?_
      refine AU_u 2 30 _ rfl (by kernel_rfl) rfl rfl rfl (UOp_move _ _ rfl rfl) ?_
      refine AU_u 3 31 _ rfl (by kernel_rfl) rfl rfl rfl (UOp_move _ _ rfl rfl) ?_
      refine AU_u 4 32 _ rfl (by kernel_rfl) rfl rfl rfl (UOp_indexAddr_vec _ _ _ _ _ _ _ _ _ rfl Tryz.underlying30 Tryz.sizeOf40 hc1.1 hLi rfl rfl rfl) ?_
      refine AU_cut 2 #[true, true, true, true, true, true, true, true, false, false] [(1, .d (.pv (colD p0) 0)), (5, .vec 0 0), (14, iV p0.p), (15, iV x15), (29, iV r20), (28, .vec 0 0), (33, .vec 1 0), (35, .vec 2 0)] [.vec 0 (hdD hd), .vec 0 (intsD own), .vec 0 (intsD [x15])] ?_ (fun hS0 => ?_)
      ·refine AU_one 8 (by kernel_rfl) rfl rfl ?_
       refine AOps_append 36 _ _ _ _ _ _ _ _ _ _ _ _ rfl rfl rfl rfl rfl rfl rfl Tryz.underlying40 Tryz.type2 rfl rfl rfl (by decide) rfl rfl rfl rfl (intsD_one _) (by rw [intsD_length, intsD_length]; simpa using hc2) ?_
       rw [intsD_app]
       refine AOps_nil ?_
       refine AU_u 9 37 _ rfl (by kernel_rfl) rfl rfl rfl (UOp_indexAddr_vec _ _ _ _ _ _ _ _ _ rfl Tryz.underlying30 Tryz.sizeOf40 hc1.1 hLi rfl rfl rfl) ?_
       refine AU_done (by kernel_rfl) ?_
       refine MOps_abandonI hG 36 1 1 (own ++ [x15]) rfl rfl (fun b vs1 hb1 hrow1 => ?_)
       refine MOps_step (K1 := fun E' H' => E' = _ ∧ H' = _) (fun G' hn => AOps_store_eptr 0 0 r20.toNat _ _ _ (hdD hd) _ rfl rfl rfl rfl rfl rfl rfl Tryz.sizeOf40 hL (AOps_nil ⟨rfl, rfl⟩)) ?_
       rintro _ _ ⟨rfl, rfl⟩
       refine MOps_nil ?_
       obtain ⟨t1, t2⟩ := tab_put hnd hjl htr hb1 hrow1
       refine ⟨hd.set r20.toNat (b, (own ++ [x15]).length, vs1.size), ?_, by rw [← hown]; exact t1, t2⟩
       rw [← hdD_set]
       exact Weak_keep (G := GM G _) 0 hm [1, 5, 14, 15] [0] _ _ rfl rfl rfl
      refine AU_all [5, 6] (by kernel_rfl) rfl (allc ?_ (allc ?_ (fun _ h => nomatch h)))
      ·refine US_of 5 rfl rfl ?_
       refine AOps_q 33 _ rfl rfl rfl (QOp_load_eptr _ _ _ _ _ _ _ rfl Tryz.isAgg40 rfl rfl hgd) ?_
       refine AOps_weakF (Weak_unname hn 33 rfl) ?_
       refine AOps_nil ?_
       refine AU_one 6 (by kernel_rfl) rfl rfl ?_
       refine AOps_q 34 _ rfl rfl rfl (QOp_load_pv _ _ _ _ _ rfl Tryz.isAgg2 rfl rfl) ?_
       refine AOps_nil ?_
       refine AU_one 7 (by kernel_rfl) rfl rfl ?_
       refine AOps_buildSlice 35 _ _ _ [_] (intsD ([x15])) _ rfl rfl rfl rfl rfl (by decide) Tryz.underlying40 Tryz.sizeOf2 (zero_of Tryz.typeInfo2 rfl) rfl rfl (intsD_one _) ?_
       refine AOps_nil ?_
       exact AU_to (by kernel_rfl) hS0 (Weak_sub (allc rfl (allc rfl (allc rfl (allc rfl (allc rfl (allc rfl (allc rfl (allc rfl (fun _ h => nomatch h))))))))))
      ·refine US_of 6 rfl rfl ?_
       refine AOps_q 34 _ rfl rfl rfl (QOp_load_pv _ _ _ _ _ rfl Tryz.isAgg2 rfl rfl) ?_
       refine AOps_nil ?_
       refine AU_all [5, 7] (by kernel_rfl) rfl (allc ?_ (allc ?_ (fun _ h => nomatch h)))
       ·refine US_of 5 rfl rfl ?_
        refine AOps_q 33 _ rfl rfl rfl (QOp_load_eptr _ _ _ _ _ _ _ rfl Tryz.isAgg40 rfl rfl hgd) ?_
        refine AOps_weakF (Weak_unname hn 33 rfl) ?_
        refine AOps_nil ?_
        refine AU_one 7 (by kernel_rfl) rfl rfl ?_
        refine AOps_buildSlice 35 _ _ _ [_] (intsD ([x15])) _ rfl rfl rfl rfl rfl (by decide) Tryz.underlying40 Tryz.sizeOf2 (zero_of Tryz.typeInfo2 rfl) rfl rfl (intsD_one _) ?_
        refine AOps_nil ?_
        exact AU_to (by kernel_rfl) hS0 (Weak_sub (allc rfl (allc rfl (allc rfl (allc rfl (allc rfl (allc rfl (allc rfl (allc rfl (fun _ h => nomatch h))))))))))
       ·refine US_of 7 rfl rfl ?_
        refine AOps_buildSlice 35 _ _ _ [_] (intsD ([x15])) _ rfl rfl rfl rfl rfl (by decide) Tryz.underlying40 Tryz.sizeOf2 (zero_of Tryz.typeInfo2 rfl) rfl rfl (intsD_one _) ?_
        refine AOps_nil ?_
        refine AU_one 5 (by kernel_rfl) rfl rfl ?_
        refine AOps_q 33 _ rfl rfl rfl (QOp_load_eptr _ _ _ _ _ _ _ rfl Tryz.isAgg40 rfl rfl hgd) ?_
        refine AOps_weakF (Weak_unname hn 33 rfl) ?_
        refine AOps_nil ?_
        exact AU_to (by kernel_rfl) hS0 (Weak_sub (allc rfl (allc rfl (allc rfl (allc rfl (allc rfl (allc rfl (allc rfl (allc rfl (fun _ h => nomatch h))))))))))
    ·rintro E' H' M' ⟨hd', hw, hT1, hnd1⟩
     refine MC_weak hw ?_
     refine MC_region ?_
     refine MOps_q 38 _ rfl rfl rfl (fun _ _ => QOp_add _ _ _ _ _ _ _ rfl rfl rfl) ?_
     refine MOps_q 15 _ rfl rfl rfl (fun _ _ => QOp_move _ _ rfl rfl) ?_
     refine MOps_weak (E0 := [(1, .d (.pv (colD p0) 0)), (5, .vec 0 0), (14, iV p0.p), (15, iV (w64 (x15 + 1)))]) (H0 := [.vec 0 (hdD hd')]) (Weak_keep (G := GM G _) 0 hm [1, 5, 14, 15] [0] _ _ rfl rfl rfl) ?_
     refine MOps_nil ?_
     exact ⟨kk, Nat.lt_succ_self _, _, _, _, rfl, rfl, hT1, hnd1, h⟩
   ·have h := iteF hb h
    refine MC_exit ?_
    cases h
    exact ⟨hd, Weak_keep (G := GM G _) 0 hm [5] [0] _ _ rfl rfl rfl, hT⟩
 ·rintro E' H' M' ⟨hd, hw, hT⟩
  refine MC_weak hw (MC_untab (o := 0) (g := 0) hF rfl hT ?_)
  show ACode _ _ _ _ [(5, .vec 0 0)] [.vec 0 (rowsD s16)] _
  refine kR ?_
  refine kN 3 rfl ?_
  refine ACode_ret ?_
  exact ⟨_, _, Weak_reset 0 hm hz [2, 3] _ _ rfl rfl, _, _, [0], _, (.cons (ResV_tmp _ _ rfl) (.cons (ResV_tmp _ _ rfl) .nil)), rfl, rfl, rfl, rfl, rfl⟩
end Go.Proofs.YtldgmcghdohmeaaGreat
