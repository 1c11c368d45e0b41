/- Own library: a call that gives rows out of owned slices that became data: the rows' blocks are new and differ, so that the rows may be written. No conditions beyond those that each lemma states. -/
import Derived.Test.YtldgmcghdohmeaaMatR
import Derived.Test.YtldgmcghdohmeaaAb32
set_option linter.unusedVariables false
set_option linter.unusedSimpArgs false
namespace Go.Proofs.Ytldgmcghdohmeaa
open Go Go.RowKit Ab

theorem repResV2 {F : Nat → Prop} {w : World} {H : List AObj} {r : List Nat} {a b : AV} {x : Value} (h : RepRes F w H r [a, b] x) : ∃ u v, x = .tuple #[u, v] ∧ RepV F w H r a u ∧ RepV F w H r b v := by
  obtain ⟨xs, rfl, hl, h⟩ := h
  obtain ⟨u, v, rfl⟩ : ∃ u v, xs = #[u, v] := by
    cases xs with
    | mk l => match l, hl with
      | [u, v], _ => exact ⟨u, v, rfl⟩
  exact ⟨u, v, rfl, h 0 _ u rfl rfl, h 1 _ v rfl rfl⟩

/-- The rows of a table of such data. -/
theorem rows_ru {w : World} {I : Nat → Prop} {T : List (List Int)} {vs : List Value} (h : RepL w I (rowsU T) vs) : ∃ g : Nat → Nat × Array Value, ∀ i, i < T.length →
    vs[i]? = some (.slice (some ⟨(g i).1, 0, none⟩) (T.getD i []).length (g i).2.size) ∧ I (g i).1 ∧ (∃ ty, w.heap[(g i).1]? = some (.cells (g i).2 ty (0, 0))) ∧ (T.getD i []).length ≤ (g i).2.size ∧ (g i).2.size ≤ maxLen ∧ (g i).2.toList.take (T.getD i []).length = (T.getD i []).map (Value.int .i64) := by
  have hex : ∀ i, ∃ y : Nat × Array Value, i < T.length →
    (vs[i]? = some (.slice (some ⟨y.1, 0, none⟩) (T.getD i []).length y.2.size) ∧ I y.1 ∧ (∃ ty, w.heap[y.1]? = some (.cells y.2 ty (0, 0))) ∧ (T.getD i []).length ≤ y.2.size ∧ y.2.size ≤ maxLen ∧ y.2.toList.take (T.getD i []).length = (T.getD i []).map (Value.int .i64)) := fun i => by
    by_cases hi : i < T.length
    · obtain ⟨v, hv, hr⟩ := h.get (i := i) (c := inU (T.getD i [])) (by simp [rowsU, List.getElem?_eq_getElem hi])
      unfold inU at hr
      generalize hz : T.getD i [] = z at hr
      rw [← intsD_length z]
      cases hr with
      | ru _ us ty b hI hb hc hm hl =>
        refine ⟨(b, us), fun _ => ⟨hv, hI, ⟨ty, hb⟩, hc, hm, ?_⟩⟩
        exact RepL.ints (w := w) (I := I) ⟨by simp; omega, hl⟩
    · exact ⟨(0, #[]), fun h => absurd h hi⟩
  obtain ⟨g, hg⟩ := Classical.axiomOfChoice hex
  exact ⟨g, hg⟩

theorem nodup_map_on {α β : Type} (f : α → β) : ∀ {l : List α}, l.Nodup → (∀ a ∈ l, ∀ b ∈ l, f a = f b → a = b) → (l.map f).Nodup
  | [], _, _ => List.nodup_nil
  | a :: l, h, hf => by
    rw [List.nodup_cons] at h
    rw [List.map_cons, List.nodup_cons]
    refine ⟨fun hm => ?_, nodup_map_on f h.2 fun x hx y hy => hf x (List.mem_cons_of_mem _ hx) y (List.mem_cons_of_mem _ hy)⟩
    obtain ⟨b, hb, e⟩ := List.mem_map.1 hm
    have := hf b (List.mem_cons_of_mem _ hb) a (List.mem_cons_self ..) e
    rw [this] at hb
    exact h.1 hb

set_option maxHeartbeats 1000000 in
theorem ext_calls {P : Program} {f : FuncId} (q : Col) (sz : List Int) (T : List (List Int))
    (hac : AC P f [.d (.agg (colD q)), .vec 0 0] [.vec 0 (intsD sz)] (fun res H' => res = [.vec 1 0, iV 0] ∧ H' = [.vec 0 (intsD sz), .vec 0 (rowsU T)]))
    (hTn : T.Nodup) (L : Nat) (hTl : ∀ t ∈ T, t.length = L) (p : Nat × Nat × Nat) (M : Rws) (hp : RowOK M p sz) (w : World) (hh : Here M w) (hM : (M.map (·.1)).Nodup) (xs : Array Value)
    (hxs : RepVs (fun _ => False) w [] [] [.d (.agg (colD q)), .d (.s (hdV p))] xs) :
    Calls P f xs w fun e w' => ∃ v Mt U, e = .returned (.tuple #[v, .int .i64 0]) ∧ MatM Mt v T ∧ RowOK U p sz ∧ Keep w M w' (Mt ++ U) := by
  obtain ⟨vs, m1, m2, m3, m4, m5, m6⟩ := hp
  obtain ⟨bx, pn, pc⟩ := p
  simp only at m1 m2 m3
  subst m2 m3
  obtain ⟨tx, hbx⟩ := hh _ m1
  simp only at hbx
  have hbl : bx < w.heap.size := (Array.getElem?_eq_some_iff.1 hbx).1
  obtain ⟨F, hF⟩ : ∃ F : Nat → Prop, F = fun b => b < w.heap.size ∧ b ≠ bx := ⟨_, rfl⟩
  have one : ∀ {o : Nat} {x : AObj}, ([.vec 0 (intsD sz)] : List AObj)[o]? = some x → o = 0 ∧ x = .vec 0 (intsD sz) := fun {o x} h => by
    have : o < 1 := by simpa using (List.getElem?_eq_some_iff.1 h).1
    obtain rfl : o = 0 := by omega
    exact ⟨rfl, by simpa using h.symm⟩
  have hh0 : HRel F w [.vec 0 (intsD sz)] [bx] := by
    refine ⟨rfl, fun o o' x x' c h1 _ h2 _ _ _ => ?_, fun o x c h1' h2' => ?_, fun o x c h1' _ h2' h => ?_, fun b h => by rw [hF] at h; exact h.1⟩
    · rw [(one h1).1, (one h2).1]
    · obtain ⟨rfl, rfl⟩ := one h1'
      cases h2'
      refine .vec 0 (intsD sz) vs tx hbx (by rw [intsD_length]; exact m4) m5 ?_
      rw [intsD_length, m6]; exact RepL.ofInts sz
    · obtain ⟨rfl, rfl⟩ := one h1'
      cases h2'
      rw [hF] at h
      exact h.2 rfl
  have hargs : RepVs F w [.vec 0 (intsD sz)] [bx] [.d (.agg (colD q)), .vec 0 0] xs := by
    refine ⟨hxs.1, fun i c v h1 h2 => ?_⟩
    match i, h1, h2 with
    | 0, h1, h2 =>
      simp at h1; subst h1
      have := hxs.2 0 _ v rfl h2
      cases this with
      | d _ _ hd => exact .d _ _ (flat_agg (colD_flat q) _ _ _ _ _ hd)
    | 1, h1, h2 =>
      simp at h1; subst h1
      have := hxs.2 1 _ v rfl h2
      cases this with
      | d _ _ hd =>
        cases hd
        refine .vec 0 0 _ (by simp) fun g' cs c k1 k2 => ?_
        cases k1; cases k2
        exact ⟨Nat.le_refl _, fun _ => ⟨vs.size, vs, tx, by rw [intsD_length]; rfl, hbx, rfl⟩⟩
    | i + 2, h1, h2 => simp at h1
  refine (hac F w [bx] xs hh0 hargs).mono ?_
  rintro e w' ⟨res, H', r', x, rfl, ⟨rfl, rfl⟩, hh', hres, hst⟩
  obtain ⟨v, c, rfl, hv, hc⟩ := repResV2 hres
  have ec : c = .int .i64 0 := by
    cases hc with
    | d _ _ hd => cases hd; rfl
  subst ec
  -- the sizes
  obtain ⟨b', hb'⟩ := hh'.blk (o := 0) rfl
  obtain ⟨g, cs, b1, a1, a2, a3⟩ := hst.vec 0 0 _ b' (by simp) rfl hb'
  cases a1; cases a2
  rcases a3 with a3 | ⟨_, rfl, hlen, hcc⟩
  · exact absurd a3 (Nat.lt_irrefl _)
  obtain ⟨vs', tx', hbx', hvsz⟩ := hcc vs tx hbx
  have hO := hh'.obj 0 _ bx rfl hb'
  have hsz : sz.length ≤ vs'.size ∧ vs'.size ≤ maxLen ∧ vs'.toList.take sz.length = sz.map (Value.int .i64) := by
    cases hO with
    | vec _ _ vs2 ty2 hb2 hc2 hm2 hl2 =>
      rw [hb2] at hbx'
      cases hbx'
      rw [intsD_length] at hc2 hl2
      exact ⟨hc2, hm2, RepL.ints hl2⟩
  -- the table
  obtain ⟨b0, hb0⟩ := hh'.blk (o := 1) rfl
  have hO1 := hh'.obj 1 _ b0 rfl hb0
  obtain ⟨hs, th, ev, hbh, hcap, hTs, hmx, hRL⟩ : ∃ (hs : Array Value) (th : TypeId), v = .slice (some ⟨b0, 0, none⟩) T.length hs.size ∧ w'.heap[b0]? = some (.cells hs th (0, 0)) ∧ True ∧ T.length ≤ hs.size ∧ hs.size ≤ maxLen ∧ RepL w' (imm F w' [.vec 0 (intsD sz), .vec 0 (rowsU T)] r') (rowsU T) (hs.toList.take T.length) := by
    cases hv with
    | vec _ _ _ ho hpv =>
      obtain ⟨cap, us, ty, e1, e2, e3⟩ := (hpv 0 _ b0 rfl hb0).2 rfl
      cases hO1 with
      | vec _ _ us2 ty2 hb2 hc2 hm2 hl2 =>
        rw [hb2] at e2
        cases e2
        rw [rowsU_length] at hc2 hl2 e1
        exact ⟨us, ty, by rw [e1, e3], hb2, trivial, hc2, hm2, hl2⟩
  subst ev
  obtain ⟨g, hg⟩ := rows_ru hRL
  have hb0x : b0 ≠ bx := fun e => by
    have := hh'.inj 0 1 _ _ bx rfl rfl rfl rfl hb' (by rw [← e]; exact hb0)
    omega
  have hnew0 : w.heap.size ≤ b0 := by
    have := hh'.notF 1 _ b0 rfl rfl hb0
    rw [hF] at this
    rcases Nat.lt_or_ge b0 w.heap.size with h | h
    · exact absurd ⟨h, hb0x⟩ this
    · exact h
  have hgx : ∀ i, i < T.length → (g i).1 ≠ bx ∧ (g i).1 ≠ b0 ∧ w.heap.size ≤ (g i).1 := fun i hi => by
    obtain ⟨_, hI, _⟩ := hg i hi
    have h1 : (g i).1 ≠ bx := fun e => hI.1.2 0 _ rfl rfl (by rw [e]; exact hb')
    refine ⟨h1, fun e => hI.1.2 1 _ rfl rfl (by rw [e]; exact hb0), ?_⟩
    have := hI.2
    rw [hF] at this
    rcases Nat.lt_or_ge (g i).1 w.heap.size with h | h
    · exact absurd ⟨h, h1⟩ this
    · exact h
  have hgd : ∀ i j, i < T.length → j < T.length → (g i).1 = (g j).1 → i = j := fun i j hi hj e => by
    obtain ⟨_, _, ⟨t1, k1⟩, _, _, k2⟩ := hg i hi
    obtain ⟨_, _, ⟨t2, l1⟩, _, _, l2⟩ := hg j hj
    rw [e, l1] at k1
    injection k1 with k1
    injection k1 with k1
    have e1 : T.getD i [] = T[i] := by simp [List.getD, List.getElem?_eq_getElem hi]
    have e2 : T.getD j [] = T[j] := by simp [List.getD, List.getElem?_eq_getElem hj]
    rw [e1, hTl _ (List.getElem_mem hi)] at k2
    rw [e2, hTl _ (List.getElem_mem hj), k1, k2] at l2
    have inj : ∀ {a b : List Int}, a.map (Value.int .i64) = b.map (Value.int .i64) → a = b := fun {a b} h => by
      have := congrArg (List.map fun v : Value => match v with | .int _ z => z | _ => 0) h
      simpa [Function.comp_def] using this
    have := inj l2
    exact (List.getElem_inj hTn).1 this
  obtain ⟨R, hR⟩ : ∃ R : Rws, R = (List.range T.length).map g := ⟨_, rfl⟩
  obtain ⟨U, hU⟩ : ∃ U : Rws, U = M.map fun y => if y.1 = bx then (bx, vs') else y := ⟨_, rfl⟩
  have hU1 : U.map (·.1) = M.map (·.1) := by
    rw [hU, List.map_map]
    refine List.map_congr_left fun y _ => ?_
    show (if y.1 = bx then (bx, vs') else y).1 = y.1
    split
    · rename_i h; exact h.symm
    · rfl
  have hUm : ∀ y ∈ U, y = (bx, vs') ∨ (y ∈ M ∧ y.1 ≠ bx) := fun y hy => by
    rw [hU] at hy
    obtain ⟨z, hz, rfl⟩ := List.mem_map.1 hy
    split
    · exact .inl rfl
    · rename_i h; exact .inr ⟨hz, h⟩
  have hUx : (bx, vs') ∈ U := by
    rw [hU]; exact List.mem_map.2 ⟨(bx, vs), m1, by simp⟩
  have hRm : ∀ y ∈ R, ∃ i, i < T.length ∧ y = g i := fun y hy => by
    rw [hR] at hy
    obtain ⟨i, hi, rfl⟩ := List.mem_map.1 hy
    exact ⟨i, List.mem_range.1 hi, rfl⟩
  have hgR : ∀ i, i < T.length → g i ∈ R := fun i hi => by rw [hR]; exact List.mem_map.2 ⟨i, List.mem_range.2 hi, rfl⟩
  have hMlt : ∀ y ∈ M, y.1 < w.heap.size := fun y hy => by obtain ⟨ty, e⟩ := hh y hy; exact (Array.getElem?_eq_some_iff.1 e).1
  have hUlt : ∀ b ∈ U.map (·.1), b < w.heap.size := fun b hb => by
    rw [hU1] at hb
    obtain ⟨y, hy, rfl⟩ := List.mem_map.1 hb
    exact hMlt y hy
  have hRge : ∀ b ∈ R.map (·.1), w.heap.size ≤ b ∧ b ≠ b0 := fun b hb => by
    obtain ⟨y, hy, rfl⟩ := List.mem_map.1 hb
    obtain ⟨i, hi, rfl⟩ := hRm y hy
    exact ⟨(hgx i hi).2.2, (hgx i hi).2.1⟩
  have hRn : (R.map (·.1)).Nodup := by
    rw [hR, List.map_map]
    exact nodup_map_on _ List.nodup_range fun a ha b hb e => hgd a b (List.mem_range.1 ha) (List.mem_range.1 hb) e
  have hfree : ∀ b, b < w.heap.size → b ≠ bx → w'.heap[b]? = w.heap[b]? := fun b hb hne => (hst.free b ⟨hb, fun o x h1 _ h2 => by
    obtain ⟨rfl, rfl⟩ := one h1
    cases h2
    exact hne rfl⟩).1
  refine ⟨_, (b0, hs) :: R, U, rfl, ?_, ?_, ?_⟩
  · refine ⟨b0, hs, (List.range T.length).map fun i => ((g i).1, (T.getD i []).length, (g i).2.size), rfl, List.mem_cons_self .., hTs, hmx, ?_, ?_, ?_, by simp, fun i hi => ?_⟩
    · refine List.ext_getElem? fun i => ?_
      by_cases hi : i < T.length
      · rw [(hg i hi).1, List.getElem?_map, List.getElem?_map, List.getElem?_range hi]
        rfl
      · rw [List.getElem?_eq_none (by simp; omega), List.getElem?_eq_none (by simp; omega)]
    · rw [List.map_map]
      rw [hR, List.map_map] at hRn
      exact hRn
    · rw [List.map_map]
      intro hm
      obtain ⟨i, hi, e⟩ := List.mem_map.1 hm
      exact (hgx i (List.mem_range.1 hi)).2.1 e
    · simp only [List.length_map, List.length_range] at hi
      obtain ⟨_, _, _, k4, k5, k6⟩ := hg i hi
      have e : ((List.range T.length).map fun i => ((g i).1, (T.getD i []).length, (g i).2.size)).getD i (0, 0, 0) = ((g i).1, (T.getD i []).length, (g i).2.size) := by simp [List.getD, hi]
      rw [e]
      exact ⟨(g i).2, List.mem_cons_of_mem _ (hgR i hi), rfl, rfl, k4, k5, k6⟩
  · refine ⟨vs', hUx, rfl, hvsz.symm, hsz.1, hsz.2.1, hsz.2.2⟩
  · show Keep w M w' ((b0, hs) :: (R ++ U))
    refine ⟨hst.os, hst.tape, hst.output, hst.size, fun b hb hne => hfree b hb fun e => hne (by rw [e]; exact List.mem_map.2 ⟨_, m1, rfl⟩), ?_, fun y hy => ?_, fun y hy => ?_⟩
    · rw [List.map_cons, List.map_append, List.nodup_cons, List.nodup_append]
      refine ⟨fun h => ?_, hRn, by rw [hU1]; exact hM, fun a ha b hb e => ?_⟩
      · rcases List.mem_append.1 h with h | h
        · exact (hRge _ h).2 rfl
        · have := hUlt _ h; omega
      · have := (hRge a ha).1
        have := hUlt b hb
        omega
    · rcases List.mem_cons.1 hy with rfl | hy
      · exact .inr hnew0
      · rcases List.mem_append.1 hy with hy | hy
        · exact .inr (hRge _ (List.mem_map.2 ⟨y, hy, rfl⟩)).1
        · exact .inl (by rw [← hU1]; exact List.mem_map.2 ⟨y, hy, rfl⟩)
    · rcases List.mem_cons.1 hy with rfl | hy
      · exact ⟨th, hbh⟩
      · rcases List.mem_append.1 hy with hy | hy
        · obtain ⟨i, hi, rfl⟩ := hRm y hy
          exact (hg i hi).2.2.1
        · rcases hUm y hy with rfl | ⟨hy, hne⟩
          · exact ⟨tx', hbx'⟩
          · obtain ⟨ty, e⟩ := hh y hy
            exact ⟨ty, by rw [hfree _ (hMlt y hy) hne]; exact e⟩
end Go.Proofs.Ytldgmcghdohmeaa
