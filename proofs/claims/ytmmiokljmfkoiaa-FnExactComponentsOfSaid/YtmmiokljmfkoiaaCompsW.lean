/- Own library: impl.ComponentsOf and the law FnExactComponentsOf where there are components; rows are marked. No conditions. -/
import Derived.Test.YtmmiokljmfkoiaaMarkW
import Derived.Test.YtmmiokljmfkoiaaWalkM
set_option linter.unusedVariables false
set_option linter.unusedSimpArgs false
namespace Go.Proofs.Ytmmiokljmfkoiaa
open Go Go.RowKit Ab

theorem repRes2 {F : Nat → Prop} {w : World} {H : List AObj} {r : List Nat} {a b : AV} {x : Value} (h : RepRes F w H r [a, b] x) : ∃ u v, x = .tuple #[u, v] ∧ RepV F w H r a u ∧ RepV F w H r b v := by
  obtain ⟨xs, rfl, hl, h⟩ := h
  obtain ⟨u, v, rfl⟩ : ∃ u v, xs = #[u, v] := by
    cases xs with
    | mk l => match l, hl with
      | [u, v], _ => exact ⟨u, v, rfl⟩
  exact ⟨u, v, rfl, h 0 _ u rfl rfl, h 1 _ v rfl rfl⟩

theorem repTup2 {F : Nat → Prop} {w : World} {H : List AObj} {r : List Nat} (u v : Value) : RepV F w H r (.tup [.d (.s u), .d (.s v)]) (.tuple #[u, v]) := by
  refine .tup _ _ rfl fun i c x h1 h2 => ?_
  match i, h1, h2 with
  | 0, h1, h2 => simp at h1 h2; subst h1; subst h2; exact .d _ _ (.s _)
  | 1, h1, h2 => simp at h1 h2; subst h1; subst h2; exact .d _ _ (.s _)
  | i + 2, h1, h2 => simp at h1

theorem rep_args2 {F : Nat → Prop} {w : World} {H : List AObj} {r : List Nat} {u v : Value} {xs : Array Value} (h : RepVs F w H r [.d (.s u), .d (.s v)] xs) : xs = #[u, v] := by
  have := h.1
  obtain ⟨a, b, rfl⟩ : ∃ a b, xs = #[a, b] := by
    cases xs with
    | mk l => match l, this with
      | [a, b], _ => exact ⟨a, b, rfl⟩
  have h0 := h.2 0 _ a rfl rfl
  have h1 := h.2 1 _ b rfl rfl
  cases h0 with
  | d _ _ h0 => cases h1 with
    | d _ _ h1 => cases h0; cases h1; rfl

theorem walk_calls (k : Nat) (p0 : Col) (p1 : Int) (r : List (List Int) × List Int) (h : impl_Colouring_walk k p0 p1 = some r) (w : World) (xs : Array Value) (hxs : RepVs (fun _ => False) w [] [] [.d (.pv (colD p0) 0), iV p1] xs) :
    Calls Try.prog 30 xs w fun e w' => ∃ v y M', e = .returned (.tuple #[v, y]) ∧ MatM M' v r.1 ∧ Keep w [] w' M' := by
  refine (impl_Colouring_walk_acm k p0 p1 r h (fun _ => False) w xs (fun _ h => h.elim) hxs).mono ?_
  rintro e w' ⟨res, H', r', x, M', rfl, ⟨hd, rfl, rfl, hn, hT⟩, hh, hres, hst, hnd, hnew, hhere⟩
  obtain ⟨u, v, rfl, hu, hv⟩ := repRes2 hres
  obtain ⟨M2, m1, m2⟩ := mat_of_acm (hd := hd) rfl hh hu hst hnd hnew hhere hn hT
  exact ⟨u, v, M2, rfl, m1, m2⟩

set_option maxRecDepth 100000 in
theorem impl_ComponentsOf_acm (k : Nat) (p0 : Col) (p1 : Int) (r : List (List Int) × List Int) (hc : impl_Colouring_colourCode k p0 p1 true = some 0) (h : impl_Colouring_walk k p0 p1 = some r) :
    ACM Try.prog 9 [.d (.agg (colD p0)), iV p1] (fun res H' M' => ∃ v, res = [.d (.s v), iV 0] ∧ H' = [] ∧ MatM M' v r.1) := by
  refine ACM_of_body true Try.func9 rfl Try.ntmps9 (rvs := [.tmp 4, .tmp 5]) rfl rfl (fun G hG hF => ?_)
  have hm : G.H.length = 0 := by rw [hG]; rfl
  have hz : zeroG G.H = true := by rw [hG]; rfl
  refine MC_seq (MC_lift fun G' hn => ACode_region ?_)
  refine AOps_boxI 2 _ _ (.agg (colD p0)) (colD p0) rfl (colD_one _) rfl rfl rfl rfl rfl ?_
  refine AOps_q 4 _ rfl rfl rfl (QOp_assign _ _ rfl rfl) ?_
  refine AOps_q 5 _ rfl rfl rfl (QOp_assign _ _ rfl rfl) ?_
  refine AOps_nil ?_
  refine MC_seq ?_
  refine MC_seq (MC_lift fun G' hn => ACode_region ?_)
  refine AOps_q 9 _ rfl rfl rfl (QOp_move _ _ rfl rfl) ?_
  refine AOps_call [] 10 _ _ _ _ _ _ _ _ _ _ rfl rfl rfl rfl rfl rfl rfl Try.call29 rfl (nodupB_sound _ rfl) rfl rfl rfl (impl_Colouring_colourCode_ac k p0 p1 true _ hc) ?_
  rintro _ _ ⟨rfl, rfl⟩
  refine ⟨(fun _ h => nomatch h), (allc (trivial) (fun _ h => nomatch h)), AOps_as 10 (v' := iV 0) (H' := []) rfl rfl ?_⟩
  refine AOps_q 6 _ rfl rfl rfl (QOp_assign _ _ rfl rfl) ?_
  refine AOps_nil ?_
  refine MC_seq (MC_lift fun G' hn => ACode_region ?_)
  refine AOps_q 11 _ rfl rfl rfl (QOp_move _ _ rfl rfl) ?_
  refine AOps_q 12 _ rfl rfl rfl (QOp_neq _ _ _ _ _ _ _ rfl rfl rfl) ?_
  refine AOps_nil ?_
  refine MC_cond _ rfl (fun hb2 => absurd hb2 (by decide)) (fun hb2 => ?_)
  refine MC_skip ?_
  refine MC_seq (MC_region ?_)
  refine MOps_q 15 _ rfl rfl rfl (fun _ _ => QOp_move _ _ rfl rfl) ?_
  refine MOps_callW (Qc := fun av M' => ∃ v y, av = .tup [.d (.s v), .d (.s y)] ∧ MatM M' v r.1) hG hF 16 [.pv (colD p0) 0, .s (.int .i64 p1)] _ _ _ _ rfl rfl rfl rfl rfl rfl rfl Try.call30 rfl (fun w xs hh hnd hxs => ?_) ?_
  · refine (walk_calls k p0 p1 r h w xs hxs).mono ?_
    rintro e w' ⟨v, y, M', rfl, q1, q2⟩
    exact ⟨_, _, M', rfl, ⟨v, y, rfl, q1⟩, repTup2 v y, q2⟩
  · rintro _ M' ⟨v, y, rfl, hM⟩
    refine MOps_q 14 _ rfl rfl rfl (fun _ _ => QOp_move _ _ rfl rfl) ?_
    refine MOps_q 17 _ rfl rfl rfl (fun _ _ => QOp_extract _ _ _ _ rfl rfl rfl) ?_
    refine MOps_q 18 _ rfl rfl rfl (fun _ _ => QOp_extract _ _ _ _ rfl rfl rfl) ?_
    refine MOps_q 7 _ rfl rfl rfl (fun _ _ => QOp_assign _ _ rfl rfl) ?_
    refine MOps_q 8 _ rfl rfl rfl (fun _ _ => QOp_assign _ _ rfl rfl) ?_
    refine MOps_nil ?_
    refine MC_seq (MC_region ?_)
    refine MOps_q 19 _ rfl rfl rfl (fun _ _ => QOp_move _ _ rfl rfl) ?_
    refine MOps_q 4 _ rfl rfl rfl (fun _ _ => QOp_assign _ _ rfl rfl) ?_
    refine MOps_q 5 _ rfl rfl rfl (fun _ _ => QOp_assign _ _ rfl rfl) ?_
    refine MOps_nil ?_
    refine MC_retn ?_
    exact ⟨_, _, fun r a w h => ⟨r, h⟩, _, _, [], _, (.cons (ResV_tmp _ _ rfl) (.cons (ResV_tmp _ _ rfl) .nil)), rfl, rfl, rfl, v, rfl, rfl, hM⟩

theorem comps_calls (k : Nat) (p0 : Col) (p1 : Int) (r : List (List Int) × List Int) (hc : impl_Colouring_colourCode k p0 p1 true = some 0) (h : impl_Colouring_walk k p0 p1 = some r) (w : World) (xs : Array Value) (hxs : RepVs (fun _ => False) w [] [] [.d (.agg (colD p0)), iV p1] xs) :
    Calls Try.prog 9 xs w fun e w' => ∃ v M', e = .returned (.tuple #[v, .int .i64 0]) ∧ MatM M' v r.1 ∧ Keep w [] w' M' := by
  refine (impl_ComponentsOf_acm k p0 p1 r hc h (fun _ => False) w xs (fun _ h => h.elim) hxs).mono ?_
  rintro e w' ⟨res, H', r', x, M', rfl, ⟨v, rfl, rfl, hM⟩, hh, hres, hst, hnd, hnew, hhere⟩
  obtain ⟨u, y, rfl, hu, hy⟩ := repRes2 hres
  cases hu with
  | d _ _ hu => cases hy with
    | d _ _ hy =>
      cases hu
      cases hy
      exact ⟨v, M', rfl, hM, hst.os, hst.tape, hst.output, hst.size, fun b hb _ => (hst.free b ⟨hb, fun _ _ hx => by simp at hx⟩).1, hnd, fun p hp => .inr (hnew p hp), hhere⟩

/-- A reading call over the table. -/
theorem flat_mat {f : FuncId} {T : List (List Int)} {M : Rws} {v y : Value} {ds : List D} {w : World} {xs : Array Value} (h : AC Try.prog f (.d (.sl none (rowsD T)) :: ds.map AV.d) [] (fun res H' => res = [.d (.s y)] ∧ H' = [])) (hM : MatM M v T) (hh : Here M w) (hnd : (M.map (·.1)).Nodup)
    (hxs : RepVs (fun _ => False) w [] [] ((.s v :: ds).map AV.d) xs) : Calls Try.prog f xs w fun e w' => ∃ av u M', e = .returned u ∧ (av = .d (.s y) ∧ M = M') ∧ RepV (fun _ => True) w' [] [] av u ∧ Keep w M w' M' := by
  refine (calls_flat h (rep_swap hxs (hM.rep hh))).mono ?_
  rintro e w' ⟨rfl, hb⟩
  exact ⟨_, _, M, rfl, ⟨rfl, rfl⟩, .d _ _ (.s _), keep_below hb hnd hh⟩

set_option maxRecDepth 100000 in
theorem law_ac (k : Nat) (p0 q : Col) (p1 : Int) (T T' : List (List Int)) (far : List Int) (m : Int) (h1 : laws_toColouring k p0 = some q) (h2 : spec_ComponentsOf k q p1 = some (T, 0)) (h3 : impl_Colouring_colourCode k q p1 true = some 0)
    (h4 : impl_Colouring_walk k q p1 = some (T, far)) (h5 : laws_eqInt64SS k T T = some true) (h6 : markTo k T 1 T.length = some (T', m)) (h7 : laws_heldInt64SS k T' 1 = some m) (h8 : 0 ≤ m) :
    AC Try.prog 3 [.d (.agg (colD p0)), iV p1] [] (fun res H' => res = [bV true] ∧ H' = []) := by
  refine AC_of_bodyN true Try.func3 rfl Try.ntmps3 (rvs := [.tmp 4]) rfl rfl (fun G hG hF => ACode_of_MC ?_)
  have hm : G.H.length = 0 := by rw [hG]; rfl
  have hz : zeroG G.H = true := by rw [hG]; rfl
  refine MC_seq (MC_lift fun G' hn => ACode_region ?_)
  refine AOps_boxI 2 _ _ (.agg (colD p0)) (colD p0) rfl (colD_one _) rfl rfl rfl rfl rfl ?_
  refine AOps_q 4 _ rfl rfl rfl (QOp_assign _ _ rfl rfl) ?_
  refine AOps_nil ?_
  refine MC_seq (MC_lift fun G' hn => ACode_region ?_)
  refine AOps_q 14 _ rfl rfl rfl (QOp_loadN_pv _ _ _ _ _ _ rfl Try.isAgg24 Try.sizeOf24 rfl (colD_all _) (colD_length _)) ?_
  refine AOps_call [] 15 _ _ _ _ _ _ _ _ _ _ rfl rfl rfl rfl rfl rfl rfl Try.call8 rfl (nodupB_sound _ rfl) rfl rfl rfl (laws_toColouring_ac k p0 _ h1) ?_
  rintro _ _ ⟨rfl, rfl⟩
  refine ⟨(fun _ h => nomatch h), (allc (trivial) (fun _ h => nomatch h)), AOps_as 15 (v' := .d (.agg (colD q))) (H' := []) rfl rfl ?_⟩
  refine AOps_q 16 _ rfl rfl rfl (QOp_move _ _ rfl rfl) ?_
  refine AOps_call [] 17 _ _ _ _ _ _ _ _ _ _ rfl rfl rfl rfl rfl rfl rfl Try.call7 rfl (nodupB_sound _ rfl) rfl rfl rfl (spec_ComponentsOf_ac k q p1 _ h2) ?_
  rintro _ _ ⟨rfl, rfl⟩
  refine ⟨(fun _ h => nomatch h), (allc (trivial) (allc (trivial) (fun _ h => nomatch h))), AOps_as 17 (v' := .tup [.d (.sl none (rowsD T)), iV 0]) (H' := []) rfl rfl ?_⟩
  refine AOps_q 13 _ rfl rfl rfl (QOp_move _ _ rfl rfl) ?_
  refine AOps_q 18 _ rfl rfl rfl (QOp_extract _ _ _ _ rfl rfl rfl) ?_
  refine AOps_q 19 _ rfl rfl rfl (QOp_extract _ _ _ _ rfl rfl rfl) ?_
  refine AOps_q 5 _ rfl rfl rfl (QOp_assign _ _ rfl rfl) ?_
  refine AOps_q 6 _ rfl rfl rfl (QOp_assign _ _ rfl rfl) ?_
  refine AOps_nil ?_
  refine MC_seq (MC_region ?_)
  refine MOps_q 21 _ rfl rfl rfl (fun _ _ => QOp_loadN_pv _ _ _ _ _ _ rfl Try.isAgg24 Try.sizeOf24 rfl (colD_all _) (colD_length _)) ?_
  refine MOps_stepV 22 (.d (.agg (colD q))) (fun G' hn => AOps_call [] 22 _ _ _ _ _ _ _ _ _ _ rfl rfl rfl rfl rfl rfl rfl Try.call8 rfl (nodupB_sound _ rfl) rfl rfl rfl (laws_toColouring_ac k p0 _ h1) ?_) ?_
  · rintro _ _ ⟨rfl, rfl⟩
    exact ⟨(fun _ h => nomatch h), (allc (trivial) (fun _ h => nomatch h)), AOps_as 22 (v' := .d (.agg (colD q))) (H' := []) rfl rfl (AOps_nil ⟨rfl, rfl⟩)⟩
  refine MOps_q 23 _ rfl rfl rfl (fun _ _ => QOp_move _ _ rfl rfl) ?_
  refine MOps_callW (Qc := fun av M' => ∃ v, av = .tup [.d (.s v), iV 0] ∧ MatM M' v T ) hG hF 24 [.agg (colD q), .s (.int .i64 p1)] _ _ _ _ rfl rfl rfl rfl rfl rfl rfl Try.call9 rfl (fun w xs hh hnd hxs => ?_) ?_
  · refine (comps_calls k q p1 (T, far) h3 h4 w xs hxs).mono ?_
    rintro e w' ⟨v, M', rfl, g1, g2⟩
    exact ⟨_, _, M' ++ [], rfl, ⟨v, rfl, g1.mono (fun p hp => List.mem_append.2 (.inl hp))⟩, repTup2 v _, Keep.add g2 hnd hh⟩
  rintro _ Ma ⟨v1, rfl, hMa⟩
  refine MOps_q 20 _ rfl rfl rfl (fun _ _ => QOp_move _ _ rfl rfl) ?_
  refine MOps_q 25 _ rfl rfl rfl (fun _ _ => QOp_extract _ _ _ _ rfl rfl rfl) ?_
  refine MOps_q 26 _ rfl rfl rfl (fun _ _ => QOp_extract _ _ _ _ rfl rfl rfl) ?_
  refine MOps_q 7 _ rfl rfl rfl (fun _ _ => QOp_assign _ _ rfl rfl) ?_
  refine MOps_q 8 _ rfl rfl rfl (fun _ _ => QOp_assign _ _ rfl rfl) ?_
  refine MOps_nil ?_
  refine MC_seq ?_
  refine MC_seq (MC_region ?_)
  refine MOps_q 27 _ rfl rfl rfl (fun _ _ => QOp_move _ _ rfl rfl) ?_
  refine MOps_q 28 _ rfl rfl rfl (fun _ _ => QOp_move _ _ rfl rfl) ?_
  refine MOps_callW (Qc := fun av M' => av = bV true ∧ Ma = M') hG hF 29 [.s v1, .sl none (rowsD T)] _ _ _ _ rfl rfl rfl rfl rfl rfl rfl Try.call10 rfl (fun w xs hh hnd hxs => flat_mat (ds := [.sl none (rowsD T)]) (laws_eqInt64SS_ac k T T _ h5) hMa hh hnd hxs) ?_
  rintro _ _ ⟨rfl, rfl⟩
  refine MOps_q 30 _ rfl rfl rfl (fun _ _ => QOp_not _ _ _ rfl rfl) ?_
  refine MOps_q 31 _ rfl rfl rfl (fun _ _ => QOp_move _ _ rfl rfl) ?_
  refine MOps_q 32 _ rfl rfl rfl (fun _ _ => QOp_move _ _ rfl rfl) ?_
  refine MOps_q 33 _ rfl rfl rfl (fun _ _ => QOp_move _ _ rfl rfl) ?_
  refine MOps_q 34 _ rfl rfl rfl (fun _ _ => QOp_neq _ _ _ _ _ _ _ rfl rfl rfl) ?_
  refine MOps_q 35 _ rfl rfl rfl (fun _ _ => QOp_pick_f _ _ _ _ rfl rfl rfl) ?_
  refine MOps_nil ?_
  refine MC_cond _ rfl (fun hb => absurd hb (by decide)) (fun hb => ?_)
  refine MC_skip ?_
  refine MC_seq (MC_region ?_)
  refine MOps_q 9 _ rfl rfl rfl (fun _ _ => QOp_assign _ _ rfl rfl) ?_
  refine MOps_nil ?_
  refine MC_seq (MC_region ?_)
  refine MOps_q 36 _ rfl rfl rfl (fun _ _ => QOp_move _ _ rfl rfl) ?_
  refine MOps_q 37 _ rfl rfl rfl (fun _ _ => QOp_move _ _ rfl rfl) ?_
  refine MOps_callW (Qc := fun av M' => av = iV m ∧ MatM M' v1 T') hG hF 38 [.s v1, .s (.int .i64 1)] _ _ _ _ rfl rfl rfl rfl rfl rfl rfl Try.call11 rfl (fun w xs hh hnd hxs => ?_) ?_
  · rw [rep_args2 hxs]
    refine (mark_calls k T T' 1 m h6 Ma v1 w hMa hh hnd).mono ?_
    rintro e w' ⟨rfl, M', g1, g2, _⟩
    exact ⟨_, _, M', rfl, ⟨rfl, g1⟩, .d _ _ (.s _), g2⟩
  rintro _ Mb ⟨rfl, hMb⟩
  refine MOps_q 9 _ rfl rfl rfl (fun _ _ => QOp_assign _ _ rfl rfl) ?_
  refine MOps_nil ?_
  refine MC_seq (MC_region ?_)
  refine MOps_q 10 _ rfl rfl rfl (fun _ _ => QOp_assign _ _ rfl rfl) ?_
  refine MOps_nil ?_
  refine MC_seq (MC_region ?_)
  refine MOps_q 39 _ rfl rfl rfl (fun _ _ => QOp_move _ _ rfl rfl) ?_
  refine MOps_q 40 _ rfl rfl rfl (fun _ _ => QOp_move _ _ rfl rfl) ?_
  refine MOps_callW (Qc := fun av M' => av = iV m ∧ Mb = M') hG hF 41 [.s v1, .s (.int .i64 1)] _ _ _ _ rfl rfl rfl rfl rfl rfl rfl Try.call12 rfl (fun w xs hh hnd hxs => flat_mat (ds := [.s (.int .i64 1)]) (laws_heldInt64SS_ac k T' 1 _ h7) hMb hh hnd hxs) ?_
  rintro _ _ ⟨rfl, rfl⟩
  refine MOps_q 10 _ rfl rfl rfl (fun _ _ => QOp_assign _ _ rfl rfl) ?_
  refine MOps_nil ?_
  refine MC_seq ?_
  refine MC_seq (MC_region ?_)
  refine MOps_q 42 _ rfl rfl rfl (fun _ _ => QOp_move _ _ rfl rfl) ?_
  refine MOps_q 43 _ rfl rfl rfl (fun _ _ => QOp_lss _ _ _ _ _ _ _ rfl rfl rfl) ?_
  refine MOps_nil ?_
  refine MC_cond _ rfl (fun hb => absurd (of_decide_eq_true hb) (by omega)) (fun hb => ?_)
  refine MC_skip ?_
  refine MC_seq ?_
  refine MC_seq (MC_region ?_)
  refine MOps_q 44 _ rfl rfl rfl (fun _ _ => QOp_move _ _ rfl rfl) ?_
  refine MOps_q 45 _ rfl rfl rfl (fun _ _ => QOp_move _ _ rfl rfl) ?_
  refine MOps_q 46 _ rfl rfl rfl (fun _ _ => QOp_neq _ _ _ _ _ _ _ rfl rfl rfl) ?_
  refine MOps_nil ?_
  refine MC_cond _ rfl (fun hb => absurd hb (by simp)) (fun hb => ?_)
  refine MC_skip ?_
  refine MC_seq (MC_region ?_)
  refine MOps_q 48 _ rfl rfl rfl (fun _ _ => QOp_loadN_pv _ _ _ _ _ _ rfl Try.isAgg24 Try.sizeOf24 rfl (colD_all _) (colD_length _)) ?_
  refine MOps_stepV 49 (.d (.agg (colD q))) (fun G' hn => AOps_call [] 49 _ _ _ _ _ _ _ _ _ _ rfl rfl rfl rfl rfl rfl rfl Try.call8 rfl (nodupB_sound _ rfl) rfl rfl rfl (laws_toColouring_ac k p0 _ h1) ?_) ?_
  · rintro _ _ ⟨rfl, rfl⟩
    exact ⟨(fun _ h => nomatch h), (allc (trivial) (fun _ h => nomatch h)), AOps_as 49 (v' := .d (.agg (colD q))) (H' := []) rfl rfl (AOps_nil ⟨rfl, rfl⟩)⟩
  refine MOps_q 50 _ rfl rfl rfl (fun _ _ => QOp_move _ _ rfl rfl) ?_
  refine MOps_callW (Qc := fun av M' => ∃ v, av = .tup [.d (.s v), iV 0] ∧ MatM M' v T ∧ ∀ p ∈ Mb, p ∈ M') hG hF 51 [.agg (colD q), .s (.int .i64 p1)] _ _ _ _ rfl rfl rfl rfl rfl rfl rfl Try.call9 rfl (fun w xs hh hnd hxs => ?_) ?_
  · refine (comps_calls k q p1 (T, far) h3 h4 w xs hxs).mono ?_
    rintro e w' ⟨v, M', rfl, g1, g2⟩
    exact ⟨_, _, M' ++ Mb, rfl, ⟨v, rfl, g1.mono (fun p hp => List.mem_append.2 (.inl hp)), fun p hp => List.mem_append.2 (.inr hp)⟩, repTup2 v _, Keep.add g2 hnd hh⟩
  rintro _ Mc ⟨v2, rfl, hMc, hsMc⟩
  refine MOps_q 47 _ rfl rfl rfl (fun _ _ => QOp_move _ _ rfl rfl) ?_
  refine MOps_q 52 _ rfl rfl rfl (fun _ _ => QOp_extract _ _ _ _ rfl rfl rfl) ?_
  refine MOps_q 53 _ rfl rfl rfl (fun _ _ => QOp_extract _ _ _ _ rfl rfl rfl) ?_
  refine MOps_q 11 _ rfl rfl rfl (fun _ _ => QOp_assign _ _ rfl rfl) ?_
  refine MOps_q 12 _ rfl rfl rfl (fun _ _ => QOp_assign _ _ rfl rfl) ?_
  refine MOps_nil ?_
  refine MC_seq ?_
  refine MC_seq (MC_region ?_)
  refine MOps_q 54 _ rfl rfl rfl (fun _ _ => QOp_move _ _ rfl rfl) ?_
  refine MOps_q 55 _ rfl rfl rfl (fun _ _ => QOp_move _ _ rfl rfl) ?_
  refine MOps_callW (Qc := fun av M' => av = bV true ∧ Mc = M') hG hF 56 [.s v2, .sl none (rowsD T)] _ _ _ _ rfl rfl rfl rfl rfl rfl rfl Try.call10 rfl (fun w xs hh hnd hxs => flat_mat (ds := [.sl none (rowsD T)]) (laws_eqInt64SS_ac k T T _ h5) hMc hh hnd hxs) ?_
  rintro _ _ ⟨rfl, rfl⟩
  refine MOps_q 57 _ rfl rfl rfl (fun _ _ => QOp_not _ _ _ rfl rfl) ?_
  refine MOps_q 58 _ rfl rfl rfl (fun _ _ => QOp_move _ _ rfl rfl) ?_
  refine MOps_q 59 _ rfl rfl rfl (fun _ _ => QOp_move _ _ rfl rfl) ?_
  refine MOps_q 60 _ rfl rfl rfl (fun _ _ => QOp_move _ _ rfl rfl) ?_
  refine MOps_q 61 _ rfl rfl rfl (fun _ _ => QOp_neq _ _ _ _ _ _ _ rfl rfl rfl) ?_
  refine MOps_q 62 _ rfl rfl rfl (fun _ _ => QOp_pick_f _ _ _ _ rfl rfl rfl) ?_
  refine MOps_nil ?_
  refine MC_cond _ rfl (fun hb => absurd hb (by decide)) (fun hb => ?_)
  refine MC_skip ?_
  refine MC_seq (MC_region ?_)
  refine MOps_q 10 _ rfl rfl rfl (fun _ _ => QOp_assign _ _ rfl rfl) ?_
  refine MOps_nil ?_
  refine MC_seq (MC_region ?_)
  refine MOps_q 63 _ rfl rfl rfl (fun _ _ => QOp_move _ _ rfl rfl) ?_
  refine MOps_q 64 _ rfl rfl rfl (fun _ _ => QOp_move _ _ rfl rfl) ?_
  refine MOps_callW (Qc := fun av M' => av = iV m ∧ Mc = M') hG hF 65 [.s v1, .s (.int .i64 1)] _ _ _ _ rfl rfl rfl rfl rfl rfl rfl Try.call12 rfl (fun w xs hh hnd hxs => flat_mat (ds := [.s (.int .i64 1)]) (laws_heldInt64SS_ac k T' 1 _ h7) (hMb.mono hsMc) hh hnd hxs) ?_
  rintro _ _ ⟨rfl, rfl⟩
  refine MOps_q 10 _ rfl rfl rfl (fun _ _ => QOp_assign _ _ rfl rfl) ?_
  refine MOps_nil ?_
  refine MC_seq ?_
  refine MC_seq (MC_region ?_)
  refine MOps_q 66 _ rfl rfl rfl (fun _ _ => QOp_move _ _ rfl rfl) ?_
  refine MOps_q 67 _ rfl rfl rfl (fun _ _ => QOp_lss _ _ _ _ _ _ _ rfl rfl rfl) ?_
  refine MOps_nil ?_
  refine MC_cond _ rfl (fun hb => absurd (of_decide_eq_true hb) (by omega)) (fun hb => ?_)
  refine MC_skip ?_
  refine MC_seq ?_
  refine MC_seq (MC_region ?_)
  refine MOps_q 68 _ rfl rfl rfl (fun _ _ => QOp_move _ _ rfl rfl) ?_
  refine MOps_q 69 _ rfl rfl rfl (fun _ _ => QOp_move _ _ rfl rfl) ?_
  refine MOps_q 70 _ rfl rfl rfl (fun _ _ => QOp_neq _ _ _ _ _ _ _ rfl rfl rfl) ?_
  refine MOps_nil ?_
  refine MC_cond _ rfl (fun hb => absurd hb (by simp)) (fun hb => ?_)
  refine MC_skip ?_
  refine MC_seq (MC_region ?_)
  refine MOps_q 4 _ rfl rfl rfl (fun _ _ => QOp_assign _ _ rfl rfl) ?_
  refine MOps_nil ?_
  refine MC_retn ?_
  exact ⟨_, _, fun r a w h => ⟨r, h⟩, _, _, [], _, (.cons (ResV_tmp _ _ rfl) .nil), rfl, rfl, rfl, rfl, rfl⟩
end Go.Proofs.Ytmmiokljmfkoiaa
