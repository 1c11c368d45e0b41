/- The plain law of FnTriangles. No conditions beyond those that each lemma states. -/
import Derived.Test.YtfoijbdnkkaceaaPureFull20
import Derived.Test.YtfoijbdnkkaceaaPureDraw20
set_option linter.unusedVariables false
set_option linter.unusedSimpArgs false
namespace Go.Proofs.Ytfoijbdnkkaceaa
open Go Go.RowKit Ab

theorem cc_lt {x : Col} (hx : x.is) (a b : Nat) (ha : a < x.p.toNat) (hb : b < x.p.toNat) (h : a ≠ b) : 0 ≤ x.cc a b ∧ x.cc a b < x.k.toNat := by
  have main : ∀ a b : Nat, a < b → b < x.p.toNat → 0 ≤ x.cc a b ∧ x.cc a b < x.k.toNat := fun a b hab hb => by
    have hp := hx.1
    have h136 := eN_136 (i := a) (j := b) (by omega) (by omega) (by omega)
    have hlt := eN_lt (i := a) (j := b) (n := x.p.toNat) hab hb (by omega)
    have key : ∀ n : Nat, n ≤ 17 → 1 ≤ n → w64 ((w64 ((n : Int) * (w64 ((n : Int) - 1)))).tdiv 2) = (tri n : Nat) := by decide +kernel
    obtain ⟨n, hn⟩ := nat_of (show 0 ≤ x.p by omega)
    have hE : tE x = (tri n : Nat) := by
      unfold tE
      rw [hn]
      exact key n (by omega) (by omega)
    have hok := (hx.2.2 (eN a b : Nat) (by omega) (by omega)).1 (by rw [hE]; rw [hn] at hlt; simp at hlt; omega)
    have e : x.cc a b = ((x.get (eN a b)).toNat : Int) := rfl
    simp only [Int.toNat_natCast] at hok
    omega
  rcases Nat.lt_or_ge a b with q | q
  · exact main a b q hb
  · rw [cc_comm]; exact main b a (by omega) ha

theorem least_eq (n : Int) : impl_LeastTriangles n = spec_LeastTriangles n := by
  unfold impl_LeastTriangles spec_LeastTriangles
  rw [in_eq, specIn_eq]

/-- How many sets of three points there are. -/
theorem sets_val : ∀ n : Nat, n ≤ 17 → 6 * w64 ((w64 ((w64 ((n : Int) * (w64 ((n : Int) - 1)))) * (w64 ((n : Int) - 2)))).tdiv 6) = (n : Int) * ((n : Int) - 1) * ((n : Int) - 2) := by decide +kernel
theorem least_val : ∀ n : Nat, n ≤ 17 → 1 ≤ n → impl_LeastTriangles (n : Int) = (w64 ((w64 ((w64 ((n : Int) * (w64 ((n : Int) - 1)))) * (w64 ((n : Int) - 2)))).tdiv 6) - ((n : Int) * (((n : Int) - 1) * ((n : Int) - 1) / 4)) / 2, 0) := by decide +kernel
theorem sets_range : ∀ n : Nat, n ≤ 17 → 0 ≤ (n : Int) * ((n : Int) - 1) * ((n : Int) - 2) ∧ (n : Int) * ((n : Int) - 1) * ((n : Int) - 2) ≤ 6000 := by decide +kernel

theorem nums_max {k : Nat} (hk : 5000 ≤ k) (y : Col) (hy : y.is) (c : Int) (hl : (fulls y c).length ≤ 200) (e : Int) : laws_FnTriangles_l0 (some (fulls y c), e) k 0 0 = some (gwN y c : Int) := by
  obtain ⟨w, l, _, hg⟩ := specGreatest_val hk y hy.1 c
  have hw := isGrt_gw hg
  have hle : ∀ a ∈ fulls y c, a.length ≤ w := fun a ha => by
    rcases Nat.lt_or_ge w a.length with q | q
    · exfalso
      have hm := (mem_ac (aB y c) (pts y) a).1 (List.mem_filter.1 ha).1
      have hin : a ∈ cl (aB y c) a.length (pts y) := (mem_cl _ _ _ _).2 ⟨hm.1, hm.2, rfl⟩
      exact cl_down _ _ (w + 1) (a.length - (w + 1)) (by
        rw [show w + 1 + (a.length - (w + 1)) = a.length by omega]
        intro e; rw [e] at hin; simp at hin) hg.2.2.2
    · exact q
  have hmem := List.mem_of_mem_head? (show l ∈ (cl (aB y c) w (pts y)).head? by rw [hg.2.2.1]; rfl)
  have hlen := cl_len _ _ _ l hmem
  have hcl := (mem_cl _ _ _ _).1 hmem
  have hfull : full y c l = true := by
    unfold full
    rw [List.all_eq_true]
    intro q hq
    cases hgo : goesB y c l q with
    | false => rfl
    | true =>
      exfalso
      have hnot : q ∉ l := fun h => by rw [goesB_in y c l q h] at hgo; cases hgo
      -- a greater clique: the points of l and q, in order
      have hL : ((pts y).filter fun z => decide (z ∈ l) || decide (z = q)).length = w + 1 := by
        have h1 : ((pts y).filter fun z => decide (z ∈ l) || decide (z = q)).Perm (q :: l) := by
          apply (List.perm_ext_iff_of_nodup ((ir_nodup _ _).sublist List.filter_sublist) (List.nodup_cons.2 ⟨hnot, (ir_nodup 0 y.p.toNat).sublist hcl.1⟩)).2
          intro z
          rw [List.mem_filter, List.mem_cons]
          constructor
          · rintro ⟨_, h⟩
            simp at h
            rcases h with h | h
            · exact .inr h
            · exact .inl h
          · rintro (rfl | h)
            · exact ⟨hq, by simp⟩
            · exact ⟨hcl.1.subset h, by simp [h]⟩
        rw [h1.length_eq, List.length_cons, hlen]
      have hin : ((pts y).filter fun z => decide (z ∈ l) || decide (z = q)) ∈ cl (aB y c) (w + 1) (pts y) := by
        rw [mem_cl]
        refine ⟨List.filter_sublist, ?_, hL⟩
        have hall : ∀ a ∈ ((pts y).filter fun z => decide (z ∈ l) || decide (z = q)), ∀ b ∈ ((pts y).filter fun z => decide (z ∈ l) || decide (z = q)), a ≠ b → aB y c a b = true := by
          have hpair : ∀ a ∈ l, ∀ b ∈ l, a ≠ b → aB y c a b = true := fun a ha b hb hab => by
            obtain ⟨i, hi, rfl⟩ := List.getElem_of_mem ha
            obtain ⟨j, hj, rfl⟩ := List.getElem_of_mem hb
            have hp := List.pairwise_iff_getElem.1 hcl.2.1
            rcases Nat.lt_trichotomy i j with h | h | h
            · exact hp i j hi hj h
            · subst h; exact absurd rfl hab
            · rw [aB_comm]; exact hp j i hj hi h
          have hq' : ∀ a ∈ l, aB y c a q = true := fun a ha => by
            unfold goesB at hgo
            rw [List.all_eq_true] at hgo
            exact hgo a ha
          intro a ha b hb hab
          rw [List.mem_filter] at ha hb
          have ha2 := ha.2
          have hb2 := hb.2
          simp at ha2 hb2
          rcases ha2 with ha2 | ha2 <;> rcases hb2 with hb2 | hb2
          · exact hpair a ha2 b hb2 hab
          · subst hb2; exact hq' a ha2
          · subst ha2; rw [aB_comm]; exact hq' b hb2
          · subst ha2; subst hb2; exact absurd rfl hab
        have hnd : ((pts y).filter fun z => decide (z ∈ l) || decide (z = q)).Nodup := (ir_nodup _ _).sublist List.filter_sublist
        rw [List.pairwise_iff_getElem]
        intro i j hi hj hij
        exact hall _ (List.getElem_mem hi) _ (List.getElem_mem hj) fun e => by
          have := (List.getElem_inj hnd).1 e
          omega
      rw [hg.2.2.2] at hin
      cases hin
  have hlf : l ∈ fulls y c := by
    unfold fulls
    rw [List.mem_filter]
    exact ⟨(mem_ac _ _ _).2 ⟨hcl.1, hcl.2.1⟩, hfull⟩
  have hw17 := hg.2.1
  have := loopI (f := fun k' i (s : Int) => laws_FnTriangles_l0 (some (fulls y c), e) k' s i) ((fulls y c).length : Int) 0 (fun i s => 0 ≤ s ∧ s ≤ w ∧ ∀ j : Nat, (j : Int) < i → (((fulls y c).getD j []).length : Int) ≤ s) (fun r => r = (w : Int)) ?_ ?_ k 0 0 (by omega) (by omega) ⟨by omega, by omega, fun j h => by omega⟩
  · obtain ⟨r, er, rfl⟩ := this
    rw [er, hw]
  · intro k' i s h0 h1 ⟨q1, q2, q3⟩
    left
    obtain ⟨m, rfl⟩ := nat_of h0
    have hm : m < (fulls y c).length := by omega
    have em : (fulls y c).getD m [] = (fulls y c)[m] := by simp [List.getD, hm]
    have hlm := hle _ (List.getElem_mem hm)
    refine ⟨if s < (((fulls y c).getD m []).length : Int) then (((fulls y c).getD m []).length : Int) else s, ?_, ?_⟩
    · show laws_FnTriangles_l0 (some (fulls y c), e) (k' + 1) s m = _
      rw [laws_FnTriangles_l0, w64_succ h0 h1 (by omega)]
      simp only [Option.getD_some, h1, decide_true, if_true, h0, and_self, Int.toNat_natCast]
    · rw [em]
      refine ⟨by split <;> omega, by split <;> omega, fun j hj => ?_⟩
      by_cases e : j = m
      · subst e; rw [em]; split <;> omega
      · have := q3 j (by omega)
        split <;> omega
  · intro k' i s h0 h1 ⟨q1, q2, q3⟩
    refine ⟨s, ?_, ?_⟩
    · show laws_FnTriangles_l0 (some (fulls y c), e) (k' + 1) s i = _
      rw [laws_FnTriangles_l0]
      have : ¬ i < ((fulls y c).length : Int) := by omega
      simp [this]
    · obtain ⟨j, hj, rfl⟩ := List.getElem_of_mem hlf
      have := q3 j (by omega)
      have em : (fulls y c).getD j [] = (fulls y c)[j] := by simp [List.getD, hj]
      rw [em, hlen] at this
      omega

theorem drawTri_ok {k : Nat} (hk : 5000 ≤ k) (c : List UInt8) (hc : c.length ≤ 4096) : ∃ x, spec_DrawCountTriangles k c = some x := by
  unfold spec_DrawCountTriangles
  obtain ⟨s, e, hs⟩ := from_ok hk c hc
  obtain ⟨x, s1, e1, h1⟩ := spoil_ok hk s hs
  exact ⟨x, by rw [e]; simp only [Option.bind_some, e1]⟩
theorem drawLeast_ok {k : Nat} (hk : 5000 ≤ k) (c : List UInt8) (hc : c.length ≤ 4096) : ∃ n, spec_DrawLeastTriangles k c = some n := by
  unfold spec_DrawLeastTriangles
  obtain ⟨s, e, hs⟩ := from_ok hk c hc
  obtain ⟨m, s1, e1, h1⟩ := near_ok s 1000 hs
  obtain ⟨v, s2, e2, _⟩ := pick_ok s1 [6, 7, 17, m] h1 (by simp)
  exact ⟨v, by rw [e]; simp only [Option.bind_some, e1, e2]⟩

theorem triangles_pure (c : List UInt8) : laws_FnTriangles 6000 c = some true := by
  classical
  have hk : 5000 ≤ 6000 := by decide
  generalize 6000 = k at hk
  unfold laws_FnTriangles
  by_cases hb : laws_big c = true
  · rw [if_pos hb]
  have hc : c.length ≤ 4096 := by
    unfold laws_big at hb
    simp at hb; omega
  rw [if_neg hb]
  obtain ⟨x, d1⟩ := drawTri_ok hk c hc
  obtain ⟨n, d2⟩ := drawLeast_ok hk c hc
  obtain ⟨y, v, d3⟩ := with02_ok hk c hc
  have d3' : spec_DrawFullCliques k c = some (y, v) := by unfold spec_DrawFullCliques; rw [d3]; rfl
  have key1 : ∀ (X : Option (Sum Unit Bool)) (n : Int), (n = 0 → X = some (.inl ())) → (if decide (n = 0) = true then X else some (.inl ())) = some (.inl ()) := fun X n hX => by
    by_cases hz : n = 0
    · rw [decide_eq_true hz, if_pos rfl, hX hz]
    · rw [decide_eq_false hz, if_neg (by simp)]
  have hfull : ∃ r e, impl_FullCliques k y v = some (r, e) ∧ spec_FullCliques k y v = some (r.getD [], e) ∧ laws_rows9 k (r.getD []) (r.getD []) = some true ∧ (e ≠ 0 ∨ (e = 0 ∧ y.is ∧ (0 ≤ v ∧ v ≤ y.k - 1) ∧ laws_FnTriangles_l0 (r, e) k 0 0 = some (gwN y v : Int))) := by
    rcases full_val hk y v with ⟨e, he, h1, h2⟩ | ⟨h1, h2, h3, h4, h5⟩
    · exact ⟨none, e, h1, h2, rows9_refl k [] (by simp; omega) (by simp) (fun l hl => by cases hl), .inl he⟩
    · refine ⟨_, 0, h3, h4, ?_, .inr ⟨rfl, h1, h2, nums_max hk y h1 v h5 0⟩⟩
      exact rows9_refl k _ (by simp only [Option.getD_some]; omega) (by simp only [Option.getD_some]; omega) (fun l hl => by
        have := mem_acl_len y h1.1 v l (List.mem_filter.1 hl).1
        omega)
  obtain ⟨r, e, f1, f2, f3, f4⟩ := hfull
  have hnums : ∃ q g, impl_CliqueNumbers k y = some (q, g) ∧ spec_CliqueNumbers k y = some (q.getD [], g) ∧ (q.getD []).length ≤ 4 ∧ (y.is → g = 0 ∧ q = some (nums y)) := by
    rcases numbers_val hk y with ⟨h1, h2, h3⟩ | ⟨h1, h2, h3⟩
    · exact ⟨none, 1, h2, h3, by simp, fun h => absurd h h1⟩
    · exact ⟨_, 0, h2, h3, by simp only [Option.getD_some, nums, mapL_length]; have := h1.2.1; omega, fun _ => ⟨rfl, rfl⟩⟩
  obtain ⟨q, g, n1, n2, n3, n4⟩ := hnums
  have lk2 := like_refl k (q.getD []) (by omega) (by omega)
  have hfinal : ∀ (X : Option (Sum Unit Bool)), X = some (.inl ()) → X = some (.inl ()) := fun _ h => h
  have st : e = 0 → ((laws_FnTriangles_l0 (r, e) k 0 0 : Option (Int)).bind fun s44 => ((if !decide (g = 0) then some true else (if 0 ≤ v ∧ v < ((q.getD []).length : Int) then some (!decide (s44 = ((q.getD []).getD v.toNat 0))) else none)) : Option (Bool)).bind fun s47 => (if s47 then (some (.inr false) : Option (Sum Unit Bool)) else some (.inl ()))) = some (.inl ()) := fun hz => by
    rcases f4 with h | ⟨_, hy, hv, hlp⟩
    · exact absurd hz h
    · obtain ⟨rfl, rfl⟩ := n4 hy
      have h1 : 0 ≤ v ∧ v < (((some (nums y)).getD []).length : Int) := by
        simp only [Option.getD_some, nums, mapL_length]; omega
      have h2 : ((some (nums y)).getD []).getD v.toNat 0 = (gwN y v : Int) := by
        simp only [Option.getD_some]
        unfold nums
        rw [mapL_get _ _ _ (by omega), show ((v.toNat : Nat) : Int) = v by omega]
      rw [hlp]
      simp only [Option.bind_some, decide_true, Bool.not_true, Bool.false_eq_true, if_false, if_pos h1, h2]
  rcases triangles_val hk x with ⟨hx, t1, t2⟩ | ⟨hx, t1, t2⟩
  · rcases angles_val hk x with ⟨_, a1, a2⟩ | ⟨hx', _, _⟩
    · have lk := like_refl k [] (by simp; omega) (by simp)
      rw [d1]
      simp only [Option.bind_some, t1, t2, a1, a2, d2, d3', f1, f2, n1, n2, least_eq, decide_true, Bool.not_true, Bool.false_eq_true, if_false, Option.getD_none, lk, f3, lk2, letO]
      rw [key1 _ e st]
      simp
    · exact absurd hx' hx
  · rcases angles_val hk x with ⟨hx', _, _⟩ | ⟨_, a1, a2⟩
    · exact absurd hx hx'
    · have hp := hx.1
      have hkk := hx.2.1
      have lk := like_refl k (trs x) (by simp only [trs, mapL_length]; omega) (by simp only [trs, mapL_length]; omega)
      obtain ⟨m, hm⟩ := nat_of (show 0 ≤ x.p by omega)
      have hsum : laws_sum k (trs x) = some (TN x.cc x.p.toNat x.k.toNat) := by
        have := sum_val (k := k) x.k.toNat (fun c => (triN x c : Int)) (by omega) (by omega) (fun i _ => by have := triN_le hp (i : Int); omega)
        exact this
      have hcc : ∀ a b : Int, x.cc a b = x.cc b a := cc_comm x
      have hr := fun a b (ha : a < x.p.toNat) (hb : b < x.p.toNat) (h : a ≠ b) => cc_lt hx a b ha hb h
      have q1 := TN_le x.cc hcc x.p.toNat x.k.toNat hr
      have q2 := angles_ge x.cc hcc x.p.toNat x.k.toNat hr
      have q3 := fun h => angles_two x.cc hcc x.p.toNat x.k.toNat hr h
      have q4 := fun h => angles_le x.cc x.p.toNat x.k.toNat hr h (by omega)
      have s1 := sets_val m (by omega)
      have s2 := least_val m (by omega) (by omega)
      have s3 := sets_range m (by omega)
      have hm' : x.p.toNat = m := by omega
      rw [hm'] at q1 q2 q3 q4 hsum
      have hAN : anN x = AN x.cc m x.k.toNat := by unfold anN; rw [hm']
      have hT0 : 0 ≤ TN x.cc m x.k.toNat := by
        unfold TN
        have : sg x.k.toNat (fun _ => 0) ≤ sg x.k.toNat fun c => ((cl (ad x.cc c) 3 (ir 0 m)).length : Int) := sg_le fun i _ => by omega
        rw [sg_zero] at this; exact this
      rw [hAN] at a1 a2
      generalize TN x.cc m x.k.toNat = T at q1 q2 q3 hsum hT0
      generalize AN x.cc m x.k.toNat = A at q2 q3 q4 a1 a2
      rw [d1]
      simp only [Option.bind_some, t1, t2, a1, a2, d2, d3', f1, f2, n1, n2, least_eq, decide_true, Bool.not_true, Bool.false_eq_true, if_false, Option.getD_some, lk, f3, lk2, letO]
      rw [key1 _ e st]
      rw [least_eq] at s2
      rw [hm]
      simp only [Option.bind_some, s2, decide_true, Bool.not_true, Bool.false_eq_true, if_false, hsum]
      generalize w64 ((w64 ((w64 ((m : Int) * (w64 ((m : Int) - 1)))) * (w64 ((m : Int) - 2)))).tdiv 6) = S at s1
      have e1 : ¬ S < T := by omega
      rw [decide_eq_false e1]
      simp only [Bool.false_eq_true, if_false]
      by_cases hk2 : (2 : Int) < x.k
      · rw [decide_eq_true hk2]
        simp only [if_true]
        have : w64 (2 * w64 (S - T)) ≤ A := by
          rw [w64_id (n := S - T) (by omega), w64_id (by omega)]; omega
        rw [decide_eq_true this]
        simp
      · rw [decide_eq_false hk2]
        simp only [Bool.false_eq_true, if_false]
        have g1 := q3 (by omega)
        have g2 := q4 (by omega)
        have e2 : S - (m : Int) * (((m : Int) - 1) * ((m : Int) - 1) / 4) / 2 ≤ T := by omega
        have e3 : A = w64 (2 * w64 (S - T)) := by
          rw [w64_id (n := S - T) (by omega), w64_id (by omega)]; omega
        rw [decide_eq_true e2]
        simp only [if_true, Option.bind_some]
        rw [decide_eq_true e3]
end Go.Proofs.Ytfoijbdnkkaceaa
