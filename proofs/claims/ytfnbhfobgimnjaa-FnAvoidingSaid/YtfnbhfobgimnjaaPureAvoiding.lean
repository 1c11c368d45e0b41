/- The plain law of FnAvoiding: first colourings avoid what they are asked to, numbers of colourings go on by extensions, and free changes keep sizes avoided, for all dice. No conditions beyond those that each lemma states. -/
import Derived.Test.YtfnbhfobgimnjaaPureDraw27
set_option linter.unusedVariables false
set_option linter.unusedSimpArgs false
namespace Go.Proofs.Ytfnbhfobgimnjaa
open Go Go.RowKit Ab

/-! ### Draws -/
theorem sizes_ok {k : Nat} (hk : 5000 ≤ k) (s : Src) (h : okS s) (K : Int) (hK : 1 ≤ K ∧ K ≤ 4) : ∃ l s', spec_l05DrawSizes k s K = some (l, s') ∧ okS s' ∧ (l.length : Int) = K ∧ ∀ z ∈ l, 2 ≤ z ∧ z ≤ 17 := by
  unfold spec_l05DrawSizes
  have := loopI (f := fun k' i (st : Src × List Int) => spec_l05DrawSizes_l0 K k' i st.1 st.2) K 0 (fun i st => i ≤ K ∧ okS st.1 ∧ (st.2.length : Int) = i ∧ ∀ z ∈ st.2, 2 ≤ z ∧ z ≤ 17) (fun r => okS r.1 ∧ (r.2.length : Int) = K ∧ ∀ z ∈ r.2, 2 ≤ z ∧ z ≤ 17) ?_ ?_ k 0 (s, []) (by omega) (by omega) ⟨by omega, h, rfl, fun z hz => by simp at hz⟩
  · obtain ⟨⟨t, l⟩, e, h1, h2, h3⟩ := this
    dsimp only at e h1 h2 h3
    rw [e, Option.bind_some]
    dsimp only
    by_cases hk1 : K = 1
    · obtain ⟨v, t2, e2, k2, hv⟩ := pick_ok t [2, 4, 7, 17] h1 (by simp)
      rw [if_pos (decide_eq_true hk1), e2, Option.bind_some, if_pos ⟨by omega, by omega⟩]
      refine ⟨_, _, rfl, k2, by rw [List.length_set]; exact h2, fun z hz => ?_⟩
      rcases List.mem_or_eq_of_mem_set hz with hz | rfl
      · exact h3 z hz
      · simp at hv; omega
    · rw [if_neg (by simpa using hk1)]
      exact ⟨_, _, rfl, h1, h2, h3⟩
  · rintro k' i ⟨t, l⟩ h0 h1 ⟨q1, q2, q3, q4⟩
    left
    dsimp only at q2 q3 q4
    obtain ⟨v, t2, e2, k2, hv⟩ := pick_ok t [3, 3, 3, 4, 4, 2, 5] q2 (by simp)
    refine ⟨(t2, l ++ [v]), ?_, by omega, k2, by simp; omega, fun z hz => ?_⟩
    · show spec_l05DrawSizes_l0 K (k' + 1) i t l = _
      rw [spec_l05DrawSizes_l0, if_pos (decide_eq_true h1), e2, Option.bind_some, if_pos (by simp only [List.length_singleton]; omega), w64_succ h0 h1 (by omega)]
    · rcases List.mem_append.1 hz with hz | hz
      · exact q4 z hz
      · simp at hz hv; omega
  · rintro k' i ⟨t, l⟩ h0 h1 ⟨q1, q2, q3, q4⟩
    dsimp only at q2 q3 q4
    refine ⟨(t, l), ?_, q2, by dsimp only; omega, q4⟩
    show spec_l05DrawSizes_l0 K (k' + 1) i t l = _
    rw [spec_l05DrawSizes_l0, if_neg (by simp only [decide_eq_true_eq]; omega)]

theorem one_is {K : Int} (hK : 1 ≤ K ∧ K ≤ 4) : (⟨1, K, B136.zero⟩ : Col).is := by
  have e : (⟨1, K, B136.zero⟩ : Col) = mkC 1 K (fun _ _ => 0) :=
    Made.to (g' := fun _ _ => 0) (by omega) ⟨rfl, rfl, fun a b hab hb => by omega, fun e _ _ => B136.get_zero e⟩ fun a b hab hb => by omega
  rw [e]
  exact mkC_is (by omega) (by omega) hK _ fun a b hab hb => by omega

theorem grown_ok {k : Nat} (hk : 5000 ≤ k) (s : Src) (h : okS s) : ∃ x sizes s', spec_l05Grown k s = some (x, sizes, s') ∧ okS s' ∧ goodC x ∧ 1 ≤ sizes.length ∧ sizes.length ≤ 4 := by
  unfold spec_l05Grown
  obtain ⟨K, s1, e1, k1, hK⟩ := pick_ok s [1, 2, 2, 2, 2, 3, 4] h (by simp)
  have hK4 : 1 ≤ K ∧ K ≤ 4 := by simp at hK; omega
  obtain ⟨sizes, s2, e2, k2, hl, hz⟩ := sizes_ok hk s1 k1 K hK4
  obtain ⟨n, s3, e3, k3, hn, _⟩ := next_ok s2 8 k2
  obtain ⟨n0, n1⟩ := hn (by omega)
  rw [e1, Option.bind_some]
  dsimp only
  rw [e2, Option.bind_some]
  dsimp only
  rw [e3, Option.bind_some]
  dsimp only
  have loop : ∀ (d f : Nat) (t : Src) (x : Col), d < f → okS t → x.is → x.k = K → x.p + d ≤ 9 → ∃ t' y, spec_l05Grown_l0 k (sizes, s2) f (d : Int) t x = some (t', y) ∧ okS t' ∧ goodC y := by
    intro d
    induction d with
    | zero =>
      intro f t x hf ht hx hxk hxp
      obtain ⟨f, rfl⟩ : ∃ q, f = q + 1 := ⟨f - 1, by omega⟩
      exact ⟨t, x, by rw [spec_l05Grown_l0, if_neg (by simp)], ht, hx.1, hx.2.1⟩
    | succ d ih =>
      intro f t x hf ht hx hxk hxp
      obtain ⟨f, rfl⟩ : ∃ q, f = q + 1 := ⟨f - 1, by omega⟩
      have hsz : szOK x sizes := ⟨by omega, fun z hz2 => by have := hz z hz2; omega⟩
      have hall := all_val hk hx.1 hx.2.1 hsz (fun z hz2 => by have := hz z hz2; omega) 60 (by omega) (by omega)
      rw [show ((60 : Nat) : Int) = 60 from rfl] at hall
      have hlen : ∀ e ∈ (EX x sizes).take 60, e.length = x.p.toNat ∧ ∀ z ∈ e, 0 ≤ z ∧ z < x.k := fun e he => by
        have he2 := List.mem_of_mem_take he
        have h2 := exts_range (K := x.k.toNat) (ok := okX x sizes) x.p.toNat [] (fun z hz => by simp at hz) e he2
        have hx4 := hx.2.1
        exact ⟨EX_len e he2, fun z hz2 => by have := h2 z hz2; omega⟩
      have hl60 : ((EX x sizes).take 60).length ≤ 60 := by rw [List.length_take]; omega
      generalize (EX x sizes).take 60 = R at *
      rw [spec_l05Grown_l0, if_pos (decide_eq_true (by omega)), hall, Option.bind_some]
      by_cases h0 : R.length = 0
      · exact ⟨t, x, by rw [if_pos (decide_eq_true (by omega))], ht, hx.1, hx.2.1⟩
      · obtain ⟨j, t2, e4, k4, hj, _⟩ := next_ok t R.length ht
        obtain ⟨j0, j1⟩ := hj (by omega)
        have hm : R.getD j.toNat [] ∈ R := by
          have e : R.getD j.toNat [] = R[j.toNat]'(by omega) := by simp [show j.toNat < R.length by omega]
          rw [e]; exact List.getElem_mem _
        obtain ⟨q1, q2⟩ := hlen _ hm
        have hx1 := hx.1
        have hel : (((R.getD j.toNat []).length : Nat) : Int) = x.p := by omega
        rw [if_neg (by simp only [decide_eq_true_eq]; omega), e4, Option.bind_some, if_pos ⟨j0, j1⟩, specPut_val hx (by omega) hel (by omega), Option.bind_some]
        have hw : w64 (((d + 1 : Nat) : Int) - 1) = (d : Int) := by rw [w64_id (by omega)]; omega
        rw [hw]
        refine ih f t2 _ (by omega) k4 (put_is hx (by omega) hel fun a ha => q2 _ (mem_getD.2 ⟨a, ha, rfl⟩)) hxk ?_
        show ((x.p.toNat + 1 : Nat) : Int) + d ≤ 9
        omega
  obtain ⟨t', y, e5, k5, hy⟩ := loop n.toNat k s3 ⟨1, K, B136.zero⟩ (by omega) k3 (one_is hK4) rfl (by show (1 : Int) + _ ≤ 9; omega)
  rw [show ((n.toNat : Nat) : Int) = n by omega] at e5
  rw [e5]
  exact ⟨y, sizes, t', rfl, k5, hy, by omega, by omega⟩

theorem with5_ok {k : Nat} (hk : 5000 ≤ k) (s : Src) (h : okS s) : ∃ x sizes s', spec_l05With k s = some (x, sizes, s') ∧ okS s' ∧ goodC x ∧ 1 ≤ sizes.length ∧ sizes.length ≤ 10 := by
  unfold spec_l05With
  obtain ⟨x, sizes, s1, e1, k1, hx, hl1, hl4⟩ := grown_ok hk s h
  rw [e1, Option.bind_some]
  dsimp only
  obtain ⟨sizes2, s2, x2, e2, k2, hx2, hl2, hl3⟩ : ∃ sizes2 s2 x2, ((spec_l01Next s1 6).bind fun r2 => (if decide (r2.1 = 0) then (spec_l01Next r2.2 5).bind fun r5 => (if 0 ≤ r5.1 ∧ r5.1 < ((spec_l01Names).length : Int) then (spec_l01Named k ((spec_l01Names).getD r5.1.toNat ByteArray.empty)).bind fun r7 => (spec_l05DrawSizes k r5.2 r7.1.k).bind fun r8 => letO (if decide (r7.1.p = 5) then true else decide (r7.1.k = 3)) fun (s10 : Bool) => (if s10 then spec_l05With_l0 r7 r8 k 0 r8.1 else some (r8.1, r8.2, r7.1)) else none) else (if decide (r2.1 = 1) then (spec_l01Small k r2.2).bind fun r17 => (spec_l05DrawSizes k r17.2 r17.1.k).bind fun r18 => some (r18.1, r18.2, r17.1) else some (sizes, r2.2, x))) : Option (List Int × Src × Col)) = some (sizes2, s2, x2) ∧ okS s2 ∧ goodC x2 ∧ 1 ≤ sizes2.length ∧ sizes2.length ≤ 4 := by
    obtain ⟨v, t1, e2, k2, _, _⟩ := next_ok s1 6 k1
    rw [e2, Option.bind_some]
    dsimp only
    by_cases h0 : v = 0
    · rw [if_pos (decide_eq_true h0)]
      obtain ⟨a, t2, e3, k3, ha, _⟩ := next_ok t1 5 k2
      obtain ⟨a0, a1⟩ := ha (by omega)
      have hlen : (spec_l01Names.length : Int) = 5 := rfl
      obtain ⟨y, e4, hy, hyk⟩ := named2 hk a.toNat (by omega)
      obtain ⟨z, t3, e5, k5, hz1, hz2⟩ := sizes_ok hk t2 k3 y.k hyk
      rw [e3, Option.bind_some]
      dsimp only
      rw [if_pos ⟨a0, by omega⟩, e4, Option.bind_some]
      dsimp only
      rw [e5, Option.bind_some]
      dsimp only
      have hg : goodC y := ⟨by omega, hyk⟩
      cases hb : (if decide (y.p = 5) then true else decide (y.k = 3)) with
      | false => exact ⟨z, t3, y, rfl, k5, hg, by omega, by omega⟩
      | true =>
        have := loopI (f := fun k' i (l : List Int) => spec_l05With_l0 (y, true) (z, t3) k' i l) (z.length : Int) 0 (fun i l => l.length = z.length) (fun r => r.1.length = z.length ∧ r.2.1 = t3 ∧ r.2.2 = y) ?_ ?_ k 0 z (by omega) (by omega) rfl
        · obtain ⟨⟨r1, r2, r3⟩, e6, h1, h2, h3⟩ := this
          dsimp only at h1 h2 h3
          subst h2 h3
          refine ⟨r1, r2, r3, ?_, k5, hg, by omega, by omega⟩
          exact e6
        · rintro k' i l h0 h1 q
          left
          refine ⟨l.set i.toNat 3, ?_, by simp [q]⟩
          show spec_l05With_l0 (y, true) (z, t3) (k' + 1) i l = _
          rw [spec_l05With_l0, if_pos (decide_eq_true (by omega)), if_pos ⟨h0, by omega⟩, w64_succ h0 h1 (by omega)]
        · rintro k' i l h0 h1 q
          refine ⟨(l, t3, y), ?_, q, rfl, rfl⟩
          show spec_l05With_l0 (y, true) (z, t3) (k' + 1) i l = _
          rw [spec_l05With_l0, if_neg (by simp only [decide_eq_true_eq]; omega)]
    · rw [if_neg (by simpa using h0)]
      by_cases h1 : v = 1
      · obtain ⟨y, t2, e3, k3, hy⟩ := small2 hk t1 k2
        obtain ⟨z, t3, e5, k5, hz1, hz2⟩ := sizes_ok hk t2 k3 y.k hy.2
        have := hy.2
        refine ⟨z, t3, y, ?_, k5, hy, by omega, by omega⟩
        rw [if_pos (decide_eq_true h1), e3, Option.bind_some]
        dsimp only
        rw [e5]; rfl
      · exact ⟨sizes, t1, x, by rw [if_neg (by simpa using h1)], k2, hx, hl1, hl4⟩
  rw [e2, Option.bind_some]
  dsimp only
  obtain ⟨v, s3, e3, k3, _, _⟩ := next_ok s2 20 k2
  rw [e3, Option.bind_some]
  dsimp only
  unfold spec_l01Own
  by_cases h0 : v = 0
  · rw [if_pos (decide_eq_true h0), if_pos (by simp; omega), Option.bind_some, if_pos (by simp; omega)]
    exact ⟨x2, _, s3, rfl, k3, hx2, by simp, by simp; omega⟩
  · rw [if_neg (by simpa using h0)]
    by_cases h1 : v = 1
    · obtain ⟨w, s4, e4, k4, _⟩ := pick_ok s3 [0, 1, 1, 18, -1] k3 (by simp)
      rw [if_pos (decide_eq_true h1), if_pos (by simp; omega), Option.bind_some, e4, Option.bind_some, if_pos ⟨by omega, by simp; omega⟩]
      exact ⟨x2, _, s4, rfl, k4, hx2, by simp; omega, by simp; omega⟩
    · rw [if_neg (by simpa using h1)]
      exact ⟨x2, _, s3, rfl, k3, hx2, hl2, by dsimp only; omega⟩

theorem bad3_ok (s : Src) (x : Col) (h : okS s) (hk : 1 ≤ x.k ∧ x.k ≤ 4) : ∃ y s', spec_l01Bad s x = some (y, s') ∧ okS s' ∧ -1 ≤ y.k ∧ y.k ≤ 5 := by
  unfold spec_l01Bad
  obtain ⟨v, s1, e1, k1, _, _⟩ := next_ok s 50 h
  rw [e1, Option.bind_some]
  dsimp only
  by_cases h0 : v = 0
  · obtain ⟨w, s2, e2, k2, _⟩ := pick_ok s1 [0, 18, -1, w64 (x.p - 1)] k1 (by simp)
    rw [if_pos (decide_eq_true h0), e2]
    exact ⟨_, s2, rfl, k2, by dsimp only; omega, by dsimp only; omega⟩
  · rw [if_neg (by simpa using h0)]
    by_cases h1 : v = 1
    · obtain ⟨w, s2, e2, k2, hw⟩ := pick_ok s1 [0, 5, -1] k1 (by simp)
      rw [if_pos (decide_eq_true h1), e2]
      simp at hw
      exact ⟨_, s2, rfl, k2, by dsimp only; omega, by dsimp only; omega⟩
    · rw [if_neg (by simpa using h1)]
      by_cases h2 : v = 2
      · obtain ⟨a, s2, e2, k2, ha, _⟩ := next_ok s1 136 k1
        obtain ⟨a0, a1⟩ := ha (by omega)
        obtain ⟨w, s3, e3, k3, _⟩ := pick_ok s2 [1, 4, 200] k2 (by simp)
        rw [if_pos (decide_eq_true h2), e2, Option.bind_some]
        dsimp only
        rw [e3, Option.bind_some, if_pos ⟨a0, a1⟩]
        exact ⟨_, s3, rfl, k3, by show -1 ≤ x.k; omega, by show x.k ≤ 5; omega⟩
      · rw [if_neg (by simpa using h2)]
        exact ⟨x, s1, rfl, k1, by omega, by omega⟩

theorem drawFirst_ok {k : Nat} (hk : 5000 ≤ k) (c : List UInt8) (hc : c.length ≤ 4096) : ∃ n sizes, spec_DrawFirstAvoiding k c = some (n, sizes) ∧ sizes.length ≤ 10 := by
  unfold spec_DrawFirstAvoiding
  obtain ⟨s, e1, k1⟩ := from_ok hk c hc
  obtain ⟨v, s2, e2, k2, _, _⟩ := next_ok s 8 k1
  obtain ⟨sizes, s3, e3, k3, hl, _⟩ := sizes_ok hk s2 k2 2 (by omega)
  obtain ⟨w, s4, e4, k4, _, _⟩ := next_ok s3 16 k3
  rw [e1, Option.bind_some, e2, Option.bind_some]
  dsimp only
  rw [e3, Option.bind_some]
  dsimp only
  rw [e4, Option.bind_some]
  dsimp only
  by_cases h0 : w = 0
  · obtain ⟨u, s5, e5, _, _⟩ := pick_ok s4 [0, 9] k4 (by simp)
    exact ⟨u, sizes, by rw [if_pos (decide_eq_true h0), e5]; rfl, by omega⟩
  · rw [if_neg (by simpa using h0)]
    by_cases h1 : w = 1
    · obtain ⟨u, s5, e5, _, _⟩ := pick_ok s4 [0, 1, 18] k4 (by simp)
      exact ⟨_, _, by rw [if_pos (decide_eq_true h1), e5, Option.bind_some, if_pos ⟨by omega, by omega⟩]; rfl, by simp; omega⟩
    · rw [if_neg (by simpa using h1)]
      by_cases h2 : w = 2
      · exact ⟨_, _, by rw [if_pos (decide_eq_true h2), if_pos (by simp; omega)]; rfl, by simp; omega⟩
      · exact ⟨_, sizes, by rw [if_neg (by simpa using h2)]; rfl, by omega⟩
theorem drawCount_ok {k : Nat} (hk : 5000 ≤ k) (c : List UInt8) (hc : c.length ≤ 4096) : ∃ n sizes, spec_DrawCountAvoiding k c = some (n, sizes) ∧ sizes.length ≤ 10 := by
  unfold spec_DrawCountAvoiding
  obtain ⟨s, e1, k1⟩ := from_ok hk c hc
  obtain ⟨K, s2, e2, k2, hK⟩ := pick_ok s [1, 2, 2, 2, 3, 4] k1 (by simp)
  have hK4 : 1 ≤ K ∧ K ≤ 4 := by simp at hK; omega
  obtain ⟨m, s2b, e2b, k2b, _⟩ := pick_ok s2 [4, 4, 5] k2 (by simp)
  obtain ⟨v, s2c, e2c, k2c, _, _⟩ := next_ok s2b m k2b
  obtain ⟨sizes, s3, e3, k3, hl, _⟩ := sizes_ok hk s2c k2c K hK4
  obtain ⟨w, s4, e4, k4, _, _⟩ := next_ok s3 16 k3
  rw [e1, Option.bind_some, e2, Option.bind_some]
  dsimp only
  rw [e2b, Option.bind_some]
  dsimp only
  rw [e2c, Option.bind_some]
  dsimp only
  rw [e3, Option.bind_some]
  dsimp only
  rw [e4, Option.bind_some]
  dsimp only
  by_cases h0 : w = 0
  · obtain ⟨u, s5, e5, _, _⟩ := pick_ok s4 [0, 7, 6, -1] k4 (by simp)
    exact ⟨u, sizes, by rw [if_pos (decide_eq_true h0), e5]; rfl, by omega⟩
  · rw [if_neg (by simpa using h0)]
    by_cases h1 : w = 1
    · obtain ⟨u, s5, e5, _, _⟩ := pick_ok s4 [0, 1, 18] k4 (by simp)
      exact ⟨_, _, by rw [if_pos (decide_eq_true h1), e5, Option.bind_some, if_pos ⟨by omega, by omega⟩]; rfl, by simp; omega⟩
    · rw [if_neg (by simpa using h1)]
      by_cases h2 : w = 2
      · exact ⟨_, _, by rw [if_pos (decide_eq_true h2)]; rfl, by simp⟩
      · exact ⟨_, sizes, by rw [if_neg (by simpa using h2)]; rfl, by omega⟩
theorem drawFree_ok {k : Nat} (hk : 5000 ≤ k) (c : List UInt8) (hc : c.length ≤ 4096) : ∃ x sizes, spec_DrawFreeChanges k c = some (x, sizes) ∧ sizes.length ≤ 10 := by
  unfold spec_DrawFreeChanges spec_l05Draw
  obtain ⟨s, e1, k1⟩ := from_ok hk c hc
  obtain ⟨x, sizes, s2, e2, k2, hx, _, hl⟩ := with5_ok hk s k1
  obtain ⟨y, s3, e3, _⟩ := bad3_ok s2 x k2 hx.2
  refine ⟨y, sizes, ?_, hl⟩
  rw [e1, Option.bind_some, e2, Option.bind_some]
  dsimp only
  rw [e3]; rfl

/-! ### The law -/
theorem rows_refl2 (k : Nat) (L : List (List Int)) (hk : 5000 ≤ k) (hL : L.length ≤ 2000) (hl : ∀ e ∈ L, e.length ≤ 100) : laws_rows5 k L L = some true := by
  unfold laws_rows5
  rw [if_neg (by simp), loopAll (f := fun k' i => laws_rows5_l0 k L L k' i) (L.length : Int) false (fun _ => True) 0 ?_ ?_ ?_ k 0 (by omega) (by omega), if_pos (fun _ _ _ => trivial)]
  · rfl
  all_goals intro k' i h0
  · intro h1 _
    show laws_rows5_l0 k L L (k' + 1) i = _
    have hi : i.toNat < L.length := by omega
    have hm : (L.getD i.toNat []).length ≤ 100 := by
      have e : L.getD i.toNat [] = L[i.toNat] := by simp [hi]
      rw [e]; exact hl _ (List.getElem_mem hi)
    rw [laws_rows5_l0, if_pos (decide_eq_true h1), if_pos ⟨h0, h1⟩, if_pos ⟨h0, h1⟩, like_refl k _ (by omega) (by omega), Option.bind_some, if_neg (by simp), w64_succ h0 h1 (by omega)]
  · intro h1 hq; exact absurd trivial hq
  · show laws_rows5_l0 k L L (k' + 1) i = _
    rw [laws_rows5_l0, if_neg (by simp only [decide_eq_true_eq]; omega)]

theorem free_loop {k : Nat} (hk : 5000 ≤ k) {x : Col} {sizes : List Int} (hl : sizes.length ≤ 1000) (o : Option (List (List Int))) (c : Int)
    (hm : ∀ e ∈ o.getD [], x.is ∧ szOK x sizes ∧ avoidsP x sizes ∧ e ∈ FR x sizes) (hlen : (o.getD []).length ≤ 2000) : laws_FnAvoiding_l0 k (x, sizes) (o, c) k 0 = some (.inl ()) := by
  have := loopI (f := fun k' i (_ : Unit) => laws_FnAvoiding_l0 k (x, sizes) (o, c) k' i) ((o.getD []).length : Int) 0 (fun _ _ => True) (fun r => r = .inl ()) ?_ ?_ k 0 () (by omega) (by omega) trivial
  · obtain ⟨r, e, rfl⟩ := this
    exact e
  · rintro k' i _ h0 h1 _
    by_cases hi12 : i < 12
    · left
      refine ⟨(), ?_, trivial⟩
      show laws_FnAvoiding_l0 k (x, sizes) (o, c) (k' + 1) i = _
      have hmem : (o.getD []).getD i.toNat [] ∈ o.getD [] := by
        have e : (o.getD []).getD i.toNat [] = (o.getD [])[i.toNat]'(by omega) := by simp [show i.toNat < (o.getD []).length by omega]
        rw [e]; exact List.getElem_mem _
      obtain ⟨hx, hz, ha, hF⟩ := hm _ hmem
      obtain ⟨q1, y, q2, q3, q4⟩ := free_law hk hx hl hz ha hF
      have hg : 0 ≤ i ∧ True := ⟨h0, trivial⟩
      rw [laws_FnAvoiding_l0]
      dsimp only
      generalize (o.getD []).getD i.toNat [] = E at *
      simp only [letO, h1, hi12, decide_true, if_true, Option.bind_some]
      rw [if_pos hg, if_pos hg, if_pos hg, if_pos hg, if_neg (by rw [q1]; simp), if_pos (by rw [q1]; omega), if_pos (by rw [q1]; omega), if_pos (by rw [q1]; omega)]
      rw [show (0 : Int).toNat = 0 from rfl, show (1 : Int).toNat = 1 from rfl, show (2 : Int).toNat = 2 from rfl, q2, Option.bind_some]
      dsimp only
      rw [q3, Option.bind_some, w64_succ h0 h1 (by omega), q4]
      rfl
    · right
      refine ⟨.inl (), ?_, rfl⟩
      show laws_FnAvoiding_l0 k (x, sizes) (o, c) (k' + 1) i = _
      rw [laws_FnAvoiding_l0]
      simp only [letO, h1, hi12, decide_true, decide_false, if_true, Option.bind_some, Bool.false_eq_true, if_false]
  · rintro k' i _ h0 h1 _
    refine ⟨.inl (), ?_, rfl⟩
    show laws_FnAvoiding_l0 k (x, sizes) (o, c) (k' + 1) i = _
    have : ¬ i < ((o.getD []).length : Int) := by omega
    rw [laws_FnAvoiding_l0]
    simp only [letO, this, decide_false, Option.bind_some, Bool.false_eq_true, if_false]

theorem bumped {sizes : List Int} (hz : zOK sizes.length sizes) (hpos : 1 ≤ sizes.length) : ∀ s', s' = sizes.set (sizes.length - 1) (if 17 < sizes.getD (sizes.length - 1) 0 + 1 then 17 else sizes.getD (sizes.length - 1) 0 + 1) → s'.length = sizes.length ∧ zOK s'.length s' ∧ ∀ c : Nat, c < sizes.length → sizes.getD c 0 ≤ s'.getD c 0 := by
  rintro s' rfl
  have hl : (sizes.set (sizes.length - 1) (if 17 < sizes.getD (sizes.length - 1) 0 + 1 then 17 else sizes.getD (sizes.length - 1) 0 + 1)).length = sizes.length := List.length_set
  have hv := hz.2 _ (mem_getD.2 ⟨sizes.length - 1, by omega, rfl⟩)
  refine ⟨hl, ⟨rfl, fun z hz2 => ?_⟩, fun c hc => ?_⟩
  · rcases List.mem_or_eq_of_mem_set hz2 with h | h
    · exact hz.2 z h
    · subst h; split <;> omega
  · generalize hV : (if 17 < sizes.getD (sizes.length - 1) 0 + 1 then 17 else sizes.getD (sizes.length - 1) 0 + 1) = V
    have hV2 : sizes.getD (sizes.length - 1) 0 ≤ V := by
      rw [← hV]
      split <;> omega
    by_cases q : sizes.length - 1 = c
    · subst q
      have : (sizes.set (sizes.length - 1) V).getD (sizes.length - 1) 0 = V := by simp [List.getD, List.getElem?_set, hc]
      rw [this]; exact hV2
    · have : (sizes.set (sizes.length - 1) V).getD c 0 = sizes.getD c 0 := by
        simp only [List.getD, List.getElem?_set]
        rw [if_neg q]
      rw [this]; exact Int.le_refl _

theorem avoiding_pure (c : List UInt8) : ∃ k, laws_FnAvoiding k c = some true := by
  obtain ⟨k, hk0⟩ : ∃ k : Nat, k = 8000 := ⟨_, rfl⟩
  refine ⟨k, ?_⟩
  have hk : 7000 ≤ k := by omega
  unfold laws_FnAvoiding laws_big
  by_cases hb : (4096 : Int) < (c.length : Int)
  · rw [if_pos (decide_eq_true hb)]
  rw [if_neg (by simpa using hb)]
  have hc : c.length ≤ 4096 := by omega
  obtain ⟨n, sizes, e0, hl⟩ := drawFirst_ok (k := k) (by omega) c hc
  obtain ⟨x, c1, a1, b1, z1⟩ := firstAv_val hk n sizes (by omega)
  rw [e0, Option.bind_some]
  dsimp only
  rw [a1, Option.bind_some, b1, Option.bind_some]
  dsimp only
  rw [decide_eq_true (rfl : c1 = c1), eqb_refl' x]
  simp only [letO, Bool.not_true, Bool.false_eq_true, if_false, Option.bind_some]
  generalize hM : (if decide (c1 = 0) = true then _ else _ : Option (Sum Unit Bool)) = M
  have hMM : M = some (.inl ()) := by
    rw [← hM]
    by_cases h0 : c1 = 0
    · obtain ⟨⟨⟨n1, n8⟩, hzz⟩, hone, a, ha, rfl⟩ := z1 h0
      obtain ⟨N, rfl⟩ : ∃ N : Nat, n = N := ⟨n.toNat, by omega⟩
      rw [Int.toNat_natCast] at ha ⊢
      obtain ⟨g1, g2⟩ := first_law hk (n := N) (by omega) (by omega) hzz hone ha
      have hpp : (flC N 2 a).p = (N : Int) := rfl
      rw [if_pos (decide_eq_true h0), g1, Option.bind_some, hpp]
      simp only [decide_true, Bool.not_true, Bool.false_eq_true, if_false, Option.bind_some]
      by_cases h1 : (1 : Int) < (N : Int)
      · obtain ⟨y, o, f1, f2, f3⟩ := g2 (by omega)
        have hw : w64 ((N : Int) - 1) = ((N - 1 : Nat) : Int) := by rw [w64_id (by omega)]; omega
        rw [if_pos (decide_eq_true h1), hw, f1, Option.bind_some]
        dsimp only
        rw [f2, Option.bind_some]
        dsimp only
        rw [Option.getD_some, decide_eq_true f3]
        rfl
      · rw [if_neg (by simpa using h1)]
    · rw [if_neg (by simpa using h0)]
  rw [hMM]
  simp only [Option.bind_some]
  clear hMM hM
  obtain ⟨m, sz, e2, hl2⟩ := drawCount_ok (k := k) (by omega) c hc
  obtain ⟨v2, v1⟩ := countAv_val hk m sz (by omega)
  obtain ⟨v, d, a2, b2, hv⟩ : ∃ v d, impl_CountAvoiding k m sz = some (v, d) ∧ spec_CountAvoiding k m sz = some (v, d) ∧ (d = 0 → goodCt m sz ∧ v = ctV m.toNat sz) := by
    by_cases hg : goodCt m sz
    · exact ⟨_, 0, (v1 hg).1, (v1 hg).2, fun _ => ⟨hg, rfl⟩⟩
    · exact ⟨0, 2, (v2 hg).1, (v2 hg).2, fun h => by omega⟩
  rw [e2, Option.bind_some]
  dsimp only
  rw [a2, Option.bind_some, b2, Option.bind_some]
  dsimp only
  simp only [decide_true, Bool.not_true, Bool.false_eq_true, if_false, Option.bind_some, List.nil_append, List.length_nil, Nat.zero_add]
  generalize hM : (if (if decide (d = 0) = true then _ else _ : Bool) = true then _ else _ : Option (Sum Unit Bool)) = M
  have hMM : M = some (.inl ()) := by
    rw [← hM]
    by_cases h0 : d = 0
    · obtain ⟨hg, rfl⟩ := hv h0
      rw [if_pos (decide_eq_true h0)]
      by_cases h4 : m < 4
      · obtain ⟨⟨l1, l4⟩, hzz, hm1, hm2⟩ := hg
        have hw : w64 ((sz.length : Int) - 1) = ((sz.length - 1 : Nat) : Int) := by rw [w64_id (by omega)]; omega
        have hvv := hzz.2 _ (mem_getD.2 ⟨sz.length - 1, by omega, rfl⟩)
        have hw2 : w64 (sz.getD (sz.length - 1) 0 + 1) = sz.getD (sz.length - 1) 0 + 1 := w64_id (by omega)
        obtain ⟨t1, t2, t3⟩ := bumped hzz (by omega) _ rfl
        generalize hs' : sz.set (sz.length - 1) (if 17 < sz.getD (sz.length - 1) 0 + 1 then 17 else sz.getD (sz.length - 1) 0 + 1) = s' at t1 t2 t3
        have hg2 : goodCt m s' := ⟨by rw [t1]; exact ⟨l1, l4⟩, t2, hm1, by rw [t1]; exact hm2⟩
        have hval := ((countAv_val hk m s' (by omega)).2 hg2).1
        have hle := ctV_more (n := m.toNat) t1.symm t3 fun z hz2 => (hzz.2 z hz2).1
        rw [if_pos (decide_eq_true h4), if_pos (by omega), hw, if_pos ⟨by omega, by omega⟩, if_pos ⟨by omega, by omega⟩, Int.toNat_natCast, hw2, hs', hval, Option.bind_some]
        dsimp only
        rw [decide_eq_false (show ¬ ctV m.toNat s' < ctV m.toNat sz by omega)]
        rfl
      · rw [if_neg (by simpa using h4)]
    · rw [if_neg (by rw [decide_eq_false h0]; simp)]
  rw [hMM]
  simp only [Option.bind_some]
  clear hMM hM
  obtain ⟨y, sy, e3, hl3⟩ := drawFree_ok (k := k) (by omega) c hc
  obtain ⟨o, c3, a3, b3, z3, n3⟩ := free_val (k := k) (by omega) y sy (by omega)
  rw [e3, Option.bind_some]
  dsimp only
  rw [a3, Option.bind_some, b3, Option.bind_some]
  dsimp only
  have hlen : (o.getD []).length ≤ 2000 := by
    by_cases h0 : c3 = 0
    · obtain ⟨q1, _, _, rfl⟩ := z3 h0
      have := FR_le q1.2.1.2 q1.1.2 sy
      rw [Option.getD_some]; omega
    · rw [n3 h0]; simp
  have hmem : ∀ e ∈ o.getD [], y.is ∧ szOK y sy ∧ avoidsP y sy ∧ e ∈ FR y sy := fun e he => by
    by_cases h0 : c3 = 0
    · obtain ⟨q1, q2, q3, rfl⟩ := z3 h0
      exact ⟨q1, q2, q3, he⟩
    · rw [n3 h0] at he; simp at he
  have hl100 : ∀ e ∈ o.getD [], e.length ≤ 100 := fun e he => by
    obtain ⟨i, j, c, rfl, _⟩ := FR_mem (hmem e he).2.2.2
    simp
  rw [rows_refl2 k (o.getD []) (by omega) hlen hl100, free_loop (by omega) (by omega) o c3 hmem hlen]
  simp
end Go.Proofs.Ytfnbhfobgimnjaa
