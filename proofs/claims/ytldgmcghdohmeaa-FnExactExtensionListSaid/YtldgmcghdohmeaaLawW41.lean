/- Own library: the law FnExactExtensionList where there is a list of extensions; rows are marked. No conditions beyond those that each lemma states. -/
import Derived.Test.YtldgmcghdohmeaaGen41U
import Derived.Test.YtldgmcghdohmeaaMarkW41
set_option linter.unusedVariables false
set_option linter.unusedSimpArgs false
namespace Go.Proofs.Ytldgmcghdohmeaa
open Go Go.RowKit Ab

theorem repTup2 {F : Nat → Prop} {w : World} {H : List AObj} {r : List Nat} (u v : Value) : RepV F w H r (.tup [.d (.s u), .d (.s v)]) (.tuple #[u, v]) := by
  refine .tup _ _ rfl fun i c x h1 h2 => ?_
  match i, h1, h2 with
  | 0, h1, h2 => simp at h1 h2; subst h1; subst h2; exact .d _ _ (.s _)
  | 1, h1, h2 => simp at h1 h2; subst h1; subst h2; exact .d _ _ (.s _)
  | i + 2, h1, h2 => simp at h1
theorem rep_args2 {F : Nat → Prop} {w : World} {H : List AObj} {r : List Nat} {u v : Value} {xs : Array Value} (h : RepVs F w H r [.d (.s u), .d (.s v)] xs) : xs = #[u, v] := by
  have := h.1
  obtain ⟨a, b, rfl⟩ : ∃ a b, xs = #[a, b] := by
    cases xs with
    | mk l => match l, this with
      | [a, b], _ => exact ⟨a, b, rfl⟩
  have h0 := h.2 0 _ a rfl rfl
  have h1 := h.2 1 _ b rfl rfl
  cases h0 with
  | d _ _ h0 => cases h1 with
    | d _ _ h1 => cases h0; cases h1; rfl
/-- A reading call over the table. -/
theorem flat_mat {f : FuncId} {T : List (List Int)} {M : Rws} {v y : Value} {ds : List D} {w : World} {xs : Array Value} (h : AC Try.prog f (.d (.sl none (rowsD T)) :: ds.map AV.d) [] (fun res H' => res = [.d (.s y)] ∧ H' = [])) (hM : MatM M v T) (hh : Here M w) (hnd : (M.map (·.1)).Nodup)
    (hxs : RepVs (fun _ => False) w [] [] ((.s v :: ds).map AV.d) xs) : Calls Try.prog f xs w fun e w' => ∃ av u M', e = .returned u ∧ (av = .d (.s y) ∧ M = M') ∧ RepV (fun _ => True) w' [] [] av u ∧ Keep w M w' M' := by
  refine (calls_flat h (rep_swap hxs (hM.rep hh))).mono ?_
  rintro e w' ⟨rfl, hb⟩
  exact ⟨_, _, M, rfl, ⟨rfl, rfl⟩, .d _ _ (.s _), keep_below hb hnd hh⟩
/-- A reading call over a row. -/
theorem flat_row {f : FuncId} {l : List Int} {p : Nat × Nat × Nat} {M : Rws} {y : Value} {ds : List D} {w : World} {xs : Array Value} (h : AC Try.prog f (.d (.sl none (intsD l)) :: ds.map AV.d) [] (fun res H' => res = [.d (.s y)] ∧ H' = [])) (hM : RowOK M p l) (hh : Here M w) (hnd : (M.map (·.1)).Nodup)
    (hxs : RepVs (fun _ => False) w [] [] ((.s (hdV p) :: ds).map AV.d) xs) : Calls Try.prog f xs w fun e w' => ∃ av u M', e = .returned u ∧ (av = .d (.s y) ∧ M = M') ∧ RepV (fun _ => True) w' [] [] av u ∧ Keep w M w' M' := by
  refine (calls_flat h (rep_swap hxs (rep_row hM hh))).mono ?_
  rintro e w' ⟨rfl, hb⟩
  exact ⟨_, _, M, rfl, ⟨rfl, rfl⟩, .d _ _ (.s _), keep_below hb hnd hh⟩
/-- A row is marked. -/
theorem row_mark (k : Nat) (l l' : List Int) (x x' : Int) (p : Nat × Nat × Nat) (Mt U : Rws) (w : World) (h : laws_markInt64S k l x = some (x', l')) (hrow : RowOK U p l) (hh : Here (Mt ++ U) w) (hnd : ((Mt ++ U).map (·.1)).Nodup) :
    Calls Try.prog 10 #[hdV p, .int .i64 x] w fun e w' => e = .returned (.int .i64 x') ∧ ∃ U', Keep w (Mt ++ U) w' (Mt ++ U') := by
  obtain ⟨vs, m1, m2, m3, m4, m5, m6⟩ := hrow
  obtain ⟨b, pn, pc⟩ := p
  simp only at m1 m2 m3
  subst m2 m3
  have m1' : (b, vs) ∈ Mt ++ U := List.mem_append.2 (.inr m1)
  obtain ⟨ty, hb⟩ := hh _ m1'
  refine (mark_row k l l' x x' b vs ty w h hb m4 m5 m6).mono ?_
  rintro e w' ⟨rfl, r1, ⟨vs', ty', r2, r3, r4⟩, r5, r6, r7, r8, r9⟩
  have hlt : ∀ y ∈ Mt ++ U, y.1 < w.heap.size := fun y hy => by obtain ⟨t, e⟩ := hh y hy; exact (Array.getElem?_eq_some_iff.1 e).1
  have hne : ∀ y ∈ Mt, y.1 ≠ b := fun y hy e => by
    rw [List.map_append, List.nodup_append] at hnd
    exact hnd.2.2 y.1 (List.mem_map.2 ⟨y, hy, rfl⟩) b (List.mem_map.2 ⟨_, m1, rfl⟩) e
  refine ⟨rfl, U.map fun y => if y.1 = b then (b, vs') else y, ?_⟩
  have hU1 : (U.map fun y => if y.1 = b then (b, vs') else y).map (·.1) = U.map (·.1) := by
    rw [List.map_map]
    refine List.map_congr_left fun y _ => ?_
    show (if y.1 = b then (b, vs') else y).1 = y.1
    split
    · rename_i h; exact h.symm
    · rfl
  refine ⟨r5, r6, r7, r8, fun c hc1 hc2 => r9 c hc1 fun e => hc2 (by rw [e]; exact List.mem_map.2 ⟨_, m1', rfl⟩), ?_, fun y hy => .inl ?_, fun y hy => ?_⟩
  · rw [List.map_append, hU1, ← List.map_append]; exact hnd
  · have : y.1 ∈ (Mt ++ U.map fun y => if y.1 = b then (b, vs') else y).map (·.1) := List.mem_map.2 ⟨y, hy, rfl⟩
    rw [List.map_append, hU1, ← List.map_append] at this
    exact this
  · have old : ∀ y ∈ Mt ++ U, y.1 ≠ b → ∃ t, w'.heap[y.1]? = some (.cells y.2 t (0, 0)) := fun y hy hn => by
      obtain ⟨t, e⟩ := hh y hy
      exact ⟨t, by rw [r9 y.1 (hlt y hy) hn]; exact e⟩
    rcases List.mem_append.1 hy with hy | hy
    · exact old y (List.mem_append.2 (.inl hy)) (hne y hy)
    · obtain ⟨z, hz, rfl⟩ := List.mem_map.1 hy
      split
      · exact ⟨ty', r2⟩
      · rename_i hn; exact old z (List.mem_append.2 (.inr hz)) hn

set_option maxRecDepth 100000 in
set_option maxHeartbeats 2000000 in
theorem law_acE (k : Nat) (p0 q : Col) (p1 sz sz' : List Int) (T T' : List (List Int)) (m m0 : Int) (L : Nat) (h0 : p1.length ≤ 1048576) (h1 : laws_toColouring k p0 = some q) (h2 : laws_toInt64S k p1 = some sz) (h3 : spec_ExtensionList_o1 k q sz = some (T, 0)) (h4 : impl_ExtensionList_o1 k q sz = some (some T, 0))
    (h5 : laws_eqInt64SS k T T = some true) (h6 : laws_eqInt64S k sz sz = some true) (h7 : laws_markInt64S k sz 1 = some (m0, sz')) (h7' : 0 ≤ m0) (h8 : markTo k T 1 T.length = some (T', m)) (h9 : laws_heldInt64SS k T' 1 = some m) (h9' : 0 ≤ m) (hTn : T.Nodup) (hTl : ∀ t ∈ T, t.length = L) :
    AC Try.prog 3 [.d (.agg (colD p0)), .d (.sl none (intsD p1))] [] (fun res H' => res = [bV true] ∧ H' = []) := by
  have hneg : decide (m0 < 0) = false := decide_eq_false (by omega)
  refine AC_of_bodyN true Try.func3 rfl Try.ntmps3 (rvs := [.tmp 4]) rfl rfl (fun G hG hF => ACode_of_MC ?_)
  have hm : G.H.length = 0 := by rw [hG]; rfl
  have hz : zeroG G.H = true := by rw [hG]; rfl
  refine MC_seq (MC_lift fun G' hn => ACode_region ?_)
  refine AOps_boxI 2 _ _ (.agg (colD p0)) (colD p0) rfl (colD_one _) rfl rfl rfl rfl rfl ?_
  refine kN 1 rfl ?_
  refine MC_seq ?_
  refine MC_seq (MC_lift fun G' hn => ACode_region ?_)
  refine kM 1 rfl ?_
  refine AOps_q 16 _ rfl rfl rfl (QOp_len_sl _ _ _ _ _ _ _ (intsD_length _) rfl rfl rfl rfl Try.underlying25 rfl) ?_
  refine AOps_q 17 _ rfl rfl rfl (QOp_gtr _ _ _ _ _ _ _ rfl rfl rfl) ?_
  refine AOps_nil ?_
  refine MC_cond _ rfl (fun hb => absurd (of_decide_eq_true hb) (by omega)) (fun hb => ?_)
  refine MC_skip ?_
  refine MC_seq (MC_lift fun G' hn => ACode_region ?_)
  refine AOps_q 19 _ rfl rfl rfl (QOp_loadN_pv _ _ _ _ _ _ rfl Try.isAgg24 Try.sizeOf24 rfl (colD_all _) (colD_length _)) ?_
  refine kC [] 20 (.d (.agg (colD q))) [] rfl Try.call5 rfl rfl (laws_toColouring_ac k p0 _ h1) rfl ?_
  refine kM 1 rfl ?_
  refine kC [] 22 (.vec 0 0) [.vec 0 (intsD sz)] rfl Try.call6 rfl rfl (laws_toInt64S_ac k p1 _ h2) rfl ?_
  refine kC [0] 23 (.tup [.d (.sl none (rowsD T)), iV 0]) [.vec 0 (intsD sz)] rfl Try.call4 rfl rfl (spec_ExtensionList_o1_ac k q sz _ h3) rfl ?_
  refine kN 5 rfl ?_
  refine MC_seq (MC_lift fun G' hn => ACode_region ?_)
  refine kM 1 rfl ?_
  refine kC [] 27 (.vec 1 0) [.vec 0 (intsD sz), .vec 0 (intsD sz)] rfl Try.call6 rfl rfl (laws_toInt64S_ac k p1 _ h2) rfl ?_
  refine kN 1 rfl ?_
  refine MC_seq (MC_region ?_)
  refine MOps_abandonI hG 7 1 0 sz rfl rfl fun b vs hbM hrow => ?_
  refine MOps_q 29 _ rfl rfl rfl (fun _ _ => QOp_loadN_pv _ _ _ _ _ _ rfl Try.isAgg24 Try.sizeOf24 rfl (colD_all _) (colD_length _)) ?_
  refine MOps_stepV 30 (.d (.agg (colD q))) (fun G' hn => kC [] 30 (.d (.agg (colD q))) [.vec 0 (intsD sz), .gone] rfl Try.call5 rfl rfl (laws_toColouring_ac k p0 _ h1) rfl (AOps_nil ⟨rfl, rfl⟩)) ?_
  refine MOps_q 31 _ rfl rfl rfl (fun _ _ => QOp_move _ _ rfl rfl) ?_
  refine MOps_callW (Qc := fun av M' => ∃ v Mt U, av = .tup [.d (.s v), iV 0] ∧ M' = Mt ++ U ∧ MatM Mt v T ∧ RowOK U (b, sz.length, vs.size) sz) hG hF 32 [.agg (colD q), .s (hdV (b, sz.length, vs.size))] _ _ _ _ rfl rfl rfl rfl rfl rfl rfl Try.call7 rfl (fun w xs hh hnd hxs => ?_) ?_
  · refine (ext_calls q sz T (impl_ExtensionList_o1_acU k q sz _ h4) hTn L hTl (b, sz.length, vs.size) _ hrow w hh hnd xs hxs).mono ?_
    rintro e w' ⟨v, Mt, U, rfl, g1, g2, g3⟩
    exact ⟨_, _, Mt ++ U, rfl, ⟨v, Mt, U, rfl, rfl, g1, g2⟩, repTup2 v _, g3⟩
  rintro _ _ ⟨v1, Mt, U, rfl, rfl, hMt, hU⟩
  have hMa : MatM (Mt ++ U) v1 T := hMt.mono fun p hp => List.mem_append.2 (.inl hp)
  have hUa : RowOK (Mt ++ U) (b, sz.length, vs.size) sz := hU.mono fun us hu => List.mem_append.2 (.inr hu)
  refine MOps_q 28 _ rfl rfl rfl (fun _ _ => QOp_move _ _ rfl rfl) ?_
  refine MOps_q 33 _ rfl rfl rfl (fun _ _ => QOp_extract _ _ _ _ rfl rfl rfl) ?_
  refine MOps_q 34 _ rfl rfl rfl (fun _ _ => QOp_extract _ _ _ _ rfl rfl rfl) ?_
  refine MOps_q 8 _ rfl rfl rfl (fun _ _ => QOp_assign _ _ rfl rfl) ?_
  refine MOps_q 9 _ rfl rfl rfl (fun _ _ => QOp_assign _ _ rfl rfl) ?_
  refine MOps_nil ?_
  refine MC_seq ?_
  refine MC_seq (MC_region ?_)
  refine MOps_q 35 _ rfl rfl rfl (fun _ _ => QOp_move _ _ rfl rfl) ?_
  refine MOps_q 36 _ rfl rfl rfl (fun _ _ => QOp_move _ _ rfl rfl) ?_
  refine MOps_callW (Qc := fun av M' => av = bV true ∧ Mt ++ U = M') hG hF 37 [.s v1, .sl none (rowsD T)] _ _ _ _ rfl rfl rfl rfl rfl rfl rfl Try.call8 rfl (fun w xs hh hnd hxs => flat_mat (ds := [.sl none (rowsD T)]) (laws_eqInt64SS_ac k T T _ h5) hMa hh hnd hxs) ?_
  rintro _ _ ⟨rfl, rfl⟩
  refine MOps_q 38 _ rfl rfl rfl (fun _ _ => QOp_not _ _ _ rfl rfl) ?_
  refine MOps_q 39 _ rfl rfl rfl (fun _ _ => QOp_move _ _ rfl rfl) ?_
  refine MOps_q 40 _ rfl rfl rfl (fun _ _ => QOp_move _ _ rfl rfl) ?_
  refine MOps_q 41 _ rfl rfl rfl (fun _ _ => QOp_move _ _ rfl rfl) ?_
  refine MOps_q 42 _ rfl rfl rfl (fun _ _ => QOp_neq _ _ _ _ _ _ _ rfl rfl rfl) ?_
  refine MOps_q 43 _ rfl rfl rfl (fun _ _ => QOp_pick_f _ _ _ _ rfl rfl rfl) ?_
  refine MOps_nil ?_
  refine MC_cond _ rfl (fun hb => absurd hb (by decide)) (fun hb => ?_)
  refine MC_skip ?_
  refine MC_seq ?_
  refine MC_seq (MC_region ?_)
  refine MOps_q 44 _ rfl rfl rfl (fun _ _ => QOp_move _ _ rfl rfl) ?_
  refine MOps_q 45 _ rfl rfl rfl (fun _ _ => QOp_move _ _ rfl rfl) ?_
  refine MOps_step (K1 := fun E' H' => E' = (46, .vec 2 0) :: _ ∧ H' = [.vec 0 (intsD sz), .gone, .vec 0 (intsD sz)]) (fun G' hn => kC [] 46 (.vec 2 0) [.vec 0 (intsD sz), .gone, .vec 0 (intsD sz)] rfl Try.call6 rfl rfl (laws_toInt64S_ac k p1 _ h2) rfl (AOps_nil ⟨rfl, rfl⟩)) ?_
  rintro _ _ ⟨rfl, rfl⟩
  refine MOps_weak (Weak_frz [46] [] 2 0 (intsD sz) (allc rfl (fun _ h => nomatch h)) (fun _ h => nomatch h) rfl) ?_
  refine MOps_callW (Qc := fun av M' => av = bV true ∧ Mt ++ U = M') hG hF 47 [.s (hdV (b, sz.length, vs.size)), .sl none (intsD sz)] _ _ _ _ rfl rfl rfl rfl rfl rfl rfl Try.call9 rfl (fun w xs hh hnd hxs => flat_row (ds := [.sl none (intsD sz)]) (laws_eqInt64S_ac k sz sz _ h6) hUa hh hnd hxs) ?_
  rintro _ _ ⟨rfl, rfl⟩
  refine MOps_q 48 _ rfl rfl rfl (fun _ _ => QOp_not _ _ _ rfl rfl) ?_
  refine MOps_nil ?_
  refine MC_cond _ rfl (fun hb => absurd hb (by decide)) (fun hb => ?_)
  refine MC_skip ?_
  refine MC_seq (MC_region ?_)
  refine MOps_q 10 _ rfl rfl rfl (fun _ _ => QOp_assign _ _ rfl rfl) ?_
  refine MOps_nil ?_
  refine MC_seq (MC_region ?_)
  refine MOps_q 49 _ rfl rfl rfl (fun _ _ => QOp_move _ _ rfl rfl) ?_
  refine MOps_q 50 _ rfl rfl rfl (fun _ _ => QOp_move _ _ rfl rfl) ?_
  refine MOps_callW (Qc := fun av M' => av = iV m0 ∧ ∃ U', M' = Mt ++ U') hG hF 51 [.s (hdV (b, sz.length, vs.size)), .s (.int .i64 1)] _ _ _ _ rfl rfl rfl rfl rfl rfl rfl Try.call10 rfl (fun w xs hh hnd hxs => ?_) ?_
  · rw [rep_args2 hxs]
    refine (row_mark k sz sz' 1 m0 (b, sz.length, vs.size) Mt U w h7 hU hh hnd).mono ?_
    rintro e w' ⟨rfl, U', g1⟩
    exact ⟨_, _, Mt ++ U', rfl, ⟨rfl, U', rfl⟩, .d _ _ (.s _), g1⟩
  rintro _ _ ⟨rfl, V, rfl⟩
  have hMv : MatM (Mt ++ V) v1 T := hMt.mono fun p hp => List.mem_append.2 (.inl hp)
  refine MOps_q 10 _ rfl rfl rfl (fun _ _ => QOp_assign _ _ rfl rfl) ?_
  refine MOps_nil ?_
  refine MC_seq ?_
  refine MC_seq (MC_region ?_)
  refine MOps_q 52 _ rfl rfl rfl (fun _ _ => QOp_move _ _ rfl rfl) ?_
  refine MOps_q 53 (bV false) rfl rfl rfl (fun _ _ => Eq.mp (congrArg (fun c => QOp _ _ _ _ _ _ (bV c)) hneg) (QOp_lss _ _ _ _ _ _ _ rfl rfl rfl)) ?_
  refine MOps_q 54 _ rfl rfl rfl (fun _ _ => QOp_move _ _ rfl rfl) ?_
  refine MOps_q 55 _ rfl rfl rfl (fun _ _ => QOp_move _ _ rfl rfl) ?_
  refine MOps_q 56 _ rfl rfl rfl (fun _ _ => QOp_move _ _ rfl rfl) ?_
  refine MOps_callW (Qc := fun av M' => av = bV true ∧ Mt ++ V = M') hG hF 57 [.s v1, .sl none (rowsD T)] _ _ _ _ rfl rfl rfl rfl rfl rfl rfl Try.call8 rfl (fun w xs hh hnd hxs => flat_mat (ds := [.sl none (rowsD T)]) (laws_eqInt64SS_ac k T T _ h5) hMv hh hnd hxs) ?_
  rintro _ _ ⟨rfl, rfl⟩
  refine MOps_q 58 _ rfl rfl rfl (fun _ _ => QOp_not _ _ _ rfl rfl) ?_
  refine MOps_q 59 _ rfl rfl rfl (fun _ _ => QOp_pick_f _ _ _ _ rfl rfl rfl) ?_
  refine MOps_q 60 _ rfl rfl rfl (fun _ _ => QOp_move _ _ rfl rfl) ?_
  refine MOps_q 61 _ rfl rfl rfl (fun _ _ => QOp_move _ _ rfl rfl) ?_
  refine MOps_q 62 _ rfl rfl rfl (fun _ _ => QOp_move _ _ rfl rfl) ?_
  refine MOps_q 63 _ rfl rfl rfl (fun _ _ => QOp_neq _ _ _ _ _ _ _ rfl rfl rfl) ?_
  refine MOps_q 64 _ rfl rfl rfl (fun _ _ => QOp_pick_f _ _ _ _ rfl rfl rfl) ?_
  refine MOps_nil ?_
  refine MC_cond _ rfl (fun hb => absurd hb (by decide)) (fun hb => ?_)
  refine MC_skip ?_
  refine MC_seq (MC_region ?_)
  refine MOps_q 11 _ rfl rfl rfl (fun _ _ => QOp_assign _ _ rfl rfl) ?_
  refine MOps_nil ?_
  refine MC_seq (MC_region ?_)
  refine MOps_q 65 _ rfl rfl rfl (fun _ _ => QOp_move _ _ rfl rfl) ?_
  refine MOps_q 66 _ rfl rfl rfl (fun _ _ => QOp_move _ _ rfl rfl) ?_
  refine MOps_callW (Qc := fun av M' => av = iV m ∧ MatM M' v1 T') hG hF 67 [.s v1, .s (.int .i64 1)] _ _ _ _ rfl rfl rfl rfl rfl rfl rfl Try.call11 rfl (fun w xs hh hnd hxs => ?_) ?_
  · rw [rep_args2 hxs]
    refine (mark_calls k T T' 1 m h8 _ v1 w hMv hh hnd).mono ?_
    rintro e w' ⟨rfl, M', g1, g2, _⟩
    exact ⟨_, _, M', rfl, ⟨rfl, g1⟩, .d _ _ (.s _), g2⟩
  rintro _ Mb ⟨rfl, hMb⟩
  refine MOps_q 11 _ rfl rfl rfl (fun _ _ => QOp_assign _ _ rfl rfl) ?_
  refine MOps_nil ?_
  refine MC_seq (MC_region ?_)
  refine MOps_q 12 _ rfl rfl rfl (fun _ _ => QOp_assign _ _ rfl rfl) ?_
  refine MOps_nil ?_
  refine MC_seq (MC_region ?_)
  refine MOps_q 68 _ rfl rfl rfl (fun _ _ => QOp_move _ _ rfl rfl) ?_
  refine MOps_q 69 _ rfl rfl rfl (fun _ _ => QOp_move _ _ rfl rfl) ?_
  refine MOps_callW (Qc := fun av M' => av = iV m ∧ Mb = M') hG hF 70 [.s v1, .s (.int .i64 1)] _ _ _ _ rfl rfl rfl rfl rfl rfl rfl Try.call12 rfl (fun w xs hh hnd hxs => flat_mat (ds := [.s (.int .i64 1)]) (laws_heldInt64SS_ac k T' 1 _ h9) hMb hh hnd hxs) ?_
  rintro _ _ ⟨rfl, rfl⟩
  refine MOps_q 12 _ rfl rfl rfl (fun _ _ => QOp_assign _ _ rfl rfl) ?_
  refine MOps_nil ?_
  refine MC_seq ?_
  refine MC_seq (MC_region ?_)
  refine MOps_q 71 _ rfl rfl rfl (fun _ _ => QOp_move _ _ rfl rfl) ?_
  refine MOps_q 72 _ rfl rfl rfl (fun _ _ => QOp_lss _ _ _ _ _ _ _ rfl rfl rfl) ?_
  refine MOps_nil ?_
  refine MC_cond _ rfl (fun hb => absurd (of_decide_eq_true hb) (by omega)) (fun hb => ?_)
  refine MC_skip ?_
  refine MC_seq ?_
  refine MC_seq (MC_region ?_)
  refine MOps_q 73 _ rfl rfl rfl (fun _ _ => QOp_move _ _ rfl rfl) ?_
  refine MOps_q 74 _ rfl rfl rfl (fun _ _ => QOp_move _ _ rfl rfl) ?_
  refine MOps_q 75 _ rfl rfl rfl (fun _ _ => QOp_neq _ _ _ _ _ _ _ rfl rfl rfl) ?_
  refine MOps_nil ?_
  refine MC_cond _ rfl (fun hb => absurd hb (by simp)) (fun hb => ?_)
  refine MC_skip ?_
  refine MC_seq (MC_lift fun G' hn => ACode_region ?_)
  refine AOps_q 77 _ rfl rfl rfl (QOp_loadN_pv _ _ _ _ _ _ rfl Try.isAgg24 Try.sizeOf24 rfl (colD_all _) (colD_length _)) ?_
  refine kC [] 78 (.d (.agg (colD q))) [.vec 0 (intsD sz), .gone, .gone] rfl Try.call5 rfl rfl (laws_toColouring_ac k p0 _ h1) rfl ?_
  refine kM 1 rfl ?_
  refine kC [] 80 (.vec 3 0) [.vec 0 (intsD sz), .gone, .gone, .vec 0 (intsD sz)] rfl Try.call6 rfl rfl (laws_toInt64S_ac k p1 _ h2) rfl ?_
  refine AOps_call [3] 81 _ _ _ _ _ _ _ _ _ _ rfl rfl rfl rfl rfl rfl rfl Try.call7 rfl (nodupB_sound _ rfl) rfl rfl rfl (impl_ExtensionList_o1_ac k q sz _ h4) ?_
  rintro _ _ ⟨rfl, rfl⟩
  refine ⟨(allc (fun _ _ => trivial) (allc (fun _ _ => trivial) (fun _ h => nomatch h))), (allc (trivial) (allc (trivial) (fun _ h => nomatch h))), AOps_as 81 (v' := .tup [.vec 4 0, iV 0]) (H' := [.vec 0 (intsD sz), .gone, .gone, .vec 0 (intsD sz), .vec 0 (rowsD T)]) rfl rfl ?_⟩
  refine kN 5 rfl ?_
  refine MC_seq ?_
  refine MC_seq (MC_lift fun G' hn => ACode_region ?_)
  refine kM 2 rfl ?_
  refine AOps_callL [] 86 _ _ _ _ _ _ _ _ _ _ rfl rfl rfl rfl rfl rfl rfl Try.call8 rfl (nodupB_sound _ rfl) rfl rfl rfl (laws_eqInt64SS_ac k T T _ h5) ?_
  rintro _ _ ⟨rfl, rfl⟩
  refine ⟨(fun _ h => nomatch h), (allc (flat_s _) (fun _ h => nomatch h)), AOps_as 86 (v' := bV true) (H' := [.vec 0 (intsD sz), .gone, .gone, .vec 0 (intsD sz), .vec 0 (rowsD T)]) rfl rfl ?_⟩
  refine AOps_q 87 _ rfl rfl rfl (QOp_not _ _ _ rfl rfl) ?_
  refine AOps_q 88 _ rfl rfl rfl (QOp_move _ _ rfl rfl) ?_
  refine AOps_q 89 _ rfl rfl rfl (QOp_move _ _ rfl rfl) ?_
  refine AOps_q 90 _ rfl rfl rfl (QOp_move _ _ rfl rfl) ?_
  refine AOps_q 91 _ rfl rfl rfl (QOp_neq _ _ _ _ _ _ _ rfl rfl rfl) ?_
  refine AOps_q 92 _ rfl rfl rfl (QOp_pick_f _ _ _ _ rfl rfl rfl) ?_
  refine AOps_nil ?_
  refine MC_cond _ rfl (fun hb => absurd hb (by decide)) (fun hb => ?_)
  refine MC_skip ?_
  refine MC_seq (MC_region ?_)
  refine MOps_q 12 _ rfl rfl rfl (fun _ _ => QOp_assign _ _ rfl rfl) ?_
  refine MOps_nil ?_
  refine MC_seq (MC_region ?_)
  refine MOps_q 93 _ rfl rfl rfl (fun _ _ => QOp_move _ _ rfl rfl) ?_
  refine MOps_q 94 _ rfl rfl rfl (fun _ _ => QOp_move _ _ rfl rfl) ?_
  refine MOps_callW (Qc := fun av M' => av = iV m ∧ Mb = M') hG hF 95 [.s v1, .s (.int .i64 1)] _ _ _ _ rfl rfl rfl rfl rfl rfl rfl Try.call12 rfl (fun w xs hh hnd hxs => flat_mat (ds := [.s (.int .i64 1)]) (laws_heldInt64SS_ac k T' 1 _ h9) hMb hh hnd hxs) ?_
  rintro _ _ ⟨rfl, rfl⟩
  refine MOps_q 12 _ rfl rfl rfl (fun _ _ => QOp_assign _ _ rfl rfl) ?_
  refine MOps_nil ?_
  refine MC_seq ?_
  refine MC_seq (MC_region ?_)
  refine MOps_q 96 _ rfl rfl rfl (fun _ _ => QOp_move _ _ rfl rfl) ?_
  refine MOps_q 97 _ rfl rfl rfl (fun _ _ => QOp_lss _ _ _ _ _ _ _ rfl rfl rfl) ?_
  refine MOps_nil ?_
  refine MC_cond _ rfl (fun hb => absurd (of_decide_eq_true hb) (by omega)) (fun hb => ?_)
  refine MC_skip ?_
  refine MC_seq ?_
  refine MC_seq (MC_region ?_)
  refine MOps_q 98 _ rfl rfl rfl (fun _ _ => QOp_move _ _ rfl rfl) ?_
  refine MOps_q 99 _ rfl rfl rfl (fun _ _ => QOp_move _ _ rfl rfl) ?_
  refine MOps_q 100 _ rfl rfl rfl (fun _ _ => QOp_neq _ _ _ _ _ _ _ rfl rfl rfl) ?_
  refine MOps_nil ?_
  refine MC_cond _ rfl (fun hb => absurd hb (by simp)) (fun hb => ?_)
  refine MC_skip ?_
  refine MC_seq (MC_region ?_)
  refine MOps_q 4 _ rfl rfl rfl (fun _ _ => QOp_assign _ _ rfl rfl) ?_
  refine MOps_nil ?_
  refine MC_retn ?_
  exact ⟨_, _, fun r a w h => ⟨r, h⟩, _, _, [], _, (.cons (ResV_tmp _ _ rfl) .nil), rfl, rfl, rfl, rfl, rfl⟩
end Go.Proofs.Ytldgmcghdohmeaa
