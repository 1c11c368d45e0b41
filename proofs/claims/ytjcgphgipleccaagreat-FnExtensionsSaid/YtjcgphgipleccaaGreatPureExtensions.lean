/- The plain law of FnExtensions: extensions put in avoid sizes, lists and degrees count the extensions, and closed colourings have none, for all dice. No conditions beyond those that each lemma states. -/
import Derived.Test.YtjcgphgipleccaaGreatPureDraw26
set_option linter.unusedVariables false
set_option linter.unusedSimpArgs false
namespace Go.Proofs.YtjcgphgipleccaaGreat
open Go Go.RowKit Ab

/-! ### Draws -/
theorem sizes_ok {k : Nat} (hk : 5000 ≤ k) (s : Src) (h : okS s) (K : Int) (hK : 1 ≤ K ∧ K ≤ 4) : ∃ l s', spec_l05DrawSizes k s K = some (l, s') ∧ okS s' ∧ (l.length : Int) = K ∧ ∀ z ∈ l, 2 ≤ z ∧ z ≤ 17 := by
  unfold spec_l05DrawSizes
  have := loopI (f := fun k' i (st : Src × List Int) => spec_l05DrawSizes_l0 K k' i st.1 st.2) K 0 (fun i st => i ≤ K ∧ okS st.1 ∧ (st.2.length : Int) = i ∧ ∀ z ∈ st.2, 2 ≤ z ∧ z ≤ 17) (fun r => okS r.1 ∧ (r.2.length : Int) = K ∧ ∀ z ∈ r.2, 2 ≤ z ∧ z ≤ 17) ?_ ?_ k 0 (s, []) (by omega) (by omega) ⟨by omega, h, rfl, fun z hz => by simp at hz⟩
  · obtain ⟨⟨t, l⟩, e, h1, h2, h3⟩ := this
    dsimp only at e h1 h2 h3
    rw [e, Option.bind_some]
    dsimp only
    by_cases hk1 : K = 1
    · obtain ⟨v, t2, e2, k2, hv⟩ := pick_ok t [2, 4, 7, 17] h1 (by simp)
      rw [if_pos (decide_eq_true hk1), e2, Option.bind_some, if_pos ⟨by omega, by omega⟩]
      refine ⟨_, _, rfl, k2, by rw [List.length_set]; exact h2, fun z hz => ?_⟩
      rcases List.mem_or_eq_of_mem_set hz with hz | rfl
      · exact h3 z hz
      · simp at hv; omega
    · rw [if_neg (by simpa using hk1)]
      exact ⟨_, _, rfl, h1, h2, h3⟩
  · rintro k' i ⟨t, l⟩ h0 h1 ⟨q1, q2, q3, q4⟩
    left
    dsimp only at q2 q3 q4
    obtain ⟨v, t2, e2, k2, hv⟩ := pick_ok t [3, 3, 3, 4, 4, 2, 5] q2 (by simp)
    refine ⟨(t2, l ++ [v]), ?_, by omega, k2, by simp; omega, fun z hz => ?_⟩
    · show spec_l05DrawSizes_l0 K (k' + 1) i t l = _
      rw [spec_l05DrawSizes_l0, if_pos (decide_eq_true h1), e2, Option.bind_some, if_pos (by simp only [List.length_singleton]; omega), w64_succ h0 h1 (by omega)]
    · rcases List.mem_append.1 hz with hz | hz
      · exact q4 z hz
      · simp at hz hv; omega
  · rintro k' i ⟨t, l⟩ h0 h1 ⟨q1, q2, q3, q4⟩
    dsimp only at q2 q3 q4
    refine ⟨(t, l), ?_, q2, by dsimp only; omega, q4⟩
    show spec_l05DrawSizes_l0 K (k' + 1) i t l = _
    rw [spec_l05DrawSizes_l0, if_neg (by simp only [decide_eq_true_eq]; omega)]

theorem one_is {K : Int} (hK : 1 ≤ K ∧ K ≤ 4) : (⟨1, K, B136.zero⟩ : Col).is := by
  have e : (⟨1, K, B136.zero⟩ : Col) = mkC 1 K (fun _ _ => 0) :=
    Made.to (g' := fun _ _ => 0) (by omega) ⟨rfl, rfl, fun a b hab hb => by omega, fun e _ _ => B136.get_zero e⟩ fun a b hab hb => by omega
  rw [e]
  exact mkC_is (by omega) (by omega) hK _ fun a b hab hb => by omega

theorem grown_ok {k : Nat} (hk : 5000 ≤ k) (s : Src) (h : okS s) : ∃ x sizes s', spec_l05Grown k s = some (x, sizes, s') ∧ okS s' ∧ goodC x ∧ 1 ≤ sizes.length ∧ sizes.length ≤ 4 := by
  unfold spec_l05Grown
  obtain ⟨K, s1, e1, k1, hK⟩ := pick_ok s [1, 2, 2, 2, 2, 3, 4] h (by simp)
  have hK4 : 1 ≤ K ∧ K ≤ 4 := by simp at hK; omega
  obtain ⟨sizes, s2, e2, k2, hl, hz⟩ := sizes_ok hk s1 k1 K hK4
  obtain ⟨n, s3, e3, k3, hn, _⟩ := next_ok s2 8 k2
  obtain ⟨n0, n1⟩ := hn (by omega)
  rw [e1, Option.bind_some]
  dsimp only
  rw [e2, Option.bind_some]
  dsimp only
  rw [e3, Option.bind_some]
  dsimp only
  have loop : ∀ (d f : Nat) (t : Src) (x : Col), d < f → okS t → x.is → x.k = K → x.p + d ≤ 9 → ∃ t' y, spec_l05Grown_l0 k (sizes, s2) f (d : Int) t x = some (t', y) ∧ okS t' ∧ goodC y := by
    intro d
    induction d with
    | zero =>
      intro f t x hf ht hx hxk hxp
      obtain ⟨f, rfl⟩ : ∃ q, f = q + 1 := ⟨f - 1, by omega⟩
      exact ⟨t, x, by rw [spec_l05Grown_l0, if_neg (by simp)], ht, hx.1, hx.2.1⟩
    | succ d ih =>
      intro f t x hf ht hx hxk hxp
      obtain ⟨f, rfl⟩ : ∃ q, f = q + 1 := ⟨f - 1, by omega⟩
      have hsz : szOK x sizes := ⟨by omega, fun z hz2 => by have := hz z hz2; omega⟩
      have hall := all_val hk hx.1 hx.2.1 hsz (fun z hz2 => by have := hz z hz2; omega) 60 (by omega) (by omega)
      rw [show ((60 : Nat) : Int) = 60 from rfl] at hall
      have hlen : ∀ e ∈ (EX x sizes).take 60, e.length = x.p.toNat ∧ ∀ z ∈ e, 0 ≤ z ∧ z < x.k := fun e he => by
        have he2 := List.mem_of_mem_take he
        have h2 := exts_range (K := x.k.toNat) (ok := okX x sizes) x.p.toNat [] (fun z hz => by simp at hz) e he2
        have hx4 := hx.2.1
        exact ⟨EX_len e he2, fun z hz2 => by have := h2 z hz2; omega⟩
      have hl60 : ((EX x sizes).take 60).length ≤ 60 := by rw [List.length_take]; omega
      generalize (EX x sizes).take 60 = R at *
      rw [spec_l05Grown_l0, if_pos (decide_eq_true (by omega)), hall, Option.bind_some]
      by_cases h0 : R.length = 0
      · exact ⟨t, x, by rw [if_pos (decide_eq_true (by omega))], ht, hx.1, hx.2.1⟩
      · obtain ⟨j, t2, e4, k4, hj, _⟩ := next_ok t R.length ht
        obtain ⟨j0, j1⟩ := hj (by omega)
        have hm : R.getD j.toNat [] ∈ R := by
          have e : R.getD j.toNat [] = R[j.toNat]'(by omega) := by simp [show j.toNat < R.length by omega]
          rw [e]; exact List.getElem_mem _
        obtain ⟨q1, q2⟩ := hlen _ hm
        have hx1 := hx.1
        have hel : (((R.getD j.toNat []).length : Nat) : Int) = x.p := by omega
        rw [if_neg (by simp only [decide_eq_true_eq]; omega), e4, Option.bind_some, if_pos ⟨j0, j1⟩, specPut_val hx (by omega) hel (by omega), Option.bind_some]
        have hw : w64 (((d + 1 : Nat) : Int) - 1) = (d : Int) := by rw [w64_id (by omega)]; omega
        rw [hw]
        refine ih f t2 _ (by omega) k4 (put_is hx (by omega) hel fun a ha => q2 _ (mem_getD.2 ⟨a, ha, rfl⟩)) hxk ?_
        show ((x.p.toNat + 1 : Nat) : Int) + d ≤ 9
        omega
  obtain ⟨t', y, e5, k5, hy⟩ := loop n.toNat k s3 ⟨1, K, B136.zero⟩ (by omega) k3 (one_is hK4) rfl (by show (1 : Int) + _ ≤ 9; omega)
  rw [show ((n.toNat : Nat) : Int) = n by omega] at e5
  rw [e5]
  exact ⟨y, sizes, t', rfl, k5, hy, by omega, by omega⟩

theorem with5_ok {k : Nat} (hk : 5000 ≤ k) (s : Src) (h : okS s) : ∃ x sizes s', spec_l05With k s = some (x, sizes, s') ∧ okS s' ∧ goodC x ∧ 1 ≤ sizes.length ∧ sizes.length ≤ 10 := by
  unfold spec_l05With
  obtain ⟨x, sizes, s1, e1, k1, hx, hl1, hl4⟩ := grown_ok hk s h
  rw [e1, Option.bind_some]
  dsimp only
  obtain ⟨sizes2, s2, x2, e2, k2, hx2, hl2, hl3⟩ : ∃ sizes2 s2 x2, ((spec_l01Next s1 6).bind fun r2 => (if decide (r2.1 = 0) then (spec_l01Next r2.2 5).bind fun r5 => (if 0 ≤ r5.1 ∧ r5.1 < ((spec_l01Names).length : Int) then (spec_l01Named k ((spec_l01Names).getD r5.1.toNat ByteArray.empty)).bind fun r7 => (spec_l05DrawSizes k r5.2 r7.1.k).bind fun r8 => letO (if decide (r7.1.p = 5) then true else decide (r7.1.k = 3)) fun (s10 : Bool) => (if s10 then spec_l05With_l0 r7 r8 k 0 r8.1 else some (r8.1, r8.2, r7.1)) else none) else (if decide (r2.1 = 1) then (spec_l01Small k r2.2).bind fun r17 => (spec_l05DrawSizes k r17.2 r17.1.k).bind fun r18 => some (r18.1, r18.2, r17.1) else some (sizes, r2.2, x))) : Option (List Int × Src × Col)) = some (sizes2, s2, x2) ∧ okS s2 ∧ goodC x2 ∧ 1 ≤ sizes2.length ∧ sizes2.length ≤ 4 := by
    obtain ⟨v, t1, e2, k2, _, _⟩ := next_ok s1 6 k1
    rw [e2, Option.bind_some]
    dsimp only
    by_cases h0 : v = 0
    · rw [if_pos (decide_eq_true h0)]
      obtain ⟨a, t2, e3, k3, ha, _⟩ := next_ok t1 5 k2
      obtain ⟨a0, a1⟩ := ha (by omega)
      have hlen : (spec_l01Names.length : Int) = 5 := rfl
      obtain ⟨y, e4, hy, hyk⟩ := named2 hk a.toNat (by omega)
      obtain ⟨z, t3, e5, k5, hz1, hz2⟩ := sizes_ok hk t2 k3 y.k hyk
      rw [e3, Option.bind_some]
      dsimp only
      rw [if_pos ⟨a0, by omega⟩, e4, Option.bind_some]
      dsimp only
      rw [e5, Option.bind_some]
      dsimp only
      have hg : goodC y := ⟨by omega, hyk⟩
      cases hb : (if decide (y.p = 5) then true else decide (y.k = 3)) with
      | false => exact ⟨z, t3, y, rfl, k5, hg, by omega, by omega⟩
      | true =>
        have := loopI (f := fun k' i (l : List Int) => spec_l05With_l0 (y, true) (z, t3) k' i l) (z.length : Int) 0 (fun i l => l.length = z.length) (fun r => r.1.length = z.length ∧ r.2.1 = t3 ∧ r.2.2 = y) ?_ ?_ k 0 z (by omega) (by omega) rfl
        · obtain ⟨⟨r1, r2, r3⟩, e6, h1, h2, h3⟩ := this
          dsimp only at h1 h2 h3
          subst h2 h3
          refine ⟨r1, r2, r3, ?_, k5, hg, by omega, by omega⟩
          exact e6
        · rintro k' i l h0 h1 q
          left
          refine ⟨l.set i.toNat 3, ?_, by simp [q]⟩
          show spec_l05With_l0 (y, true) (z, t3) (k' + 1) i l = _
          rw [spec_l05With_l0, if_pos (decide_eq_true (by omega)), if_pos ⟨h0, by omega⟩, w64_succ h0 h1 (by omega)]
        · rintro k' i l h0 h1 q
          refine ⟨(l, t3, y), ?_, q, rfl, rfl⟩
          show spec_l05With_l0 (y, true) (z, t3) (k' + 1) i l = _
          rw [spec_l05With_l0, if_neg (by simp only [decide_eq_true_eq]; omega)]
    · rw [if_neg (by simpa using h0)]
      by_cases h1 : v = 1
      · obtain ⟨y, t2, e3, k3, hy⟩ := small2 hk t1 k2
        obtain ⟨z, t3, e5, k5, hz1, hz2⟩ := sizes_ok hk t2 k3 y.k hy.2
        have := hy.2
        refine ⟨z, t3, y, ?_, k5, hy, by omega, by omega⟩
        rw [if_pos (decide_eq_true h1), e3, Option.bind_some]
        dsimp only
        rw [e5]; rfl
      · exact ⟨sizes, t1, x, by rw [if_neg (by simpa using h1)], k2, hx, hl1, hl4⟩
  rw [e2, Option.bind_some]
  dsimp only
  obtain ⟨v, s3, e3, k3, _, _⟩ := next_ok s2 20 k2
  rw [e3, Option.bind_some]
  dsimp only
  unfold spec_l01Own
  by_cases h0 : v = 0
  · rw [if_pos (decide_eq_true h0), if_pos (by simp; omega), Option.bind_some, if_pos (by simp; omega)]
    exact ⟨x2, _, s3, rfl, k3, hx2, by simp, by simp; omega⟩
  · rw [if_neg (by simpa using h0)]
    by_cases h1 : v = 1
    · obtain ⟨w, s4, e4, k4, _⟩ := pick_ok s3 [0, 1, 1, 18, -1] k3 (by simp)
      rw [if_pos (decide_eq_true h1), if_pos (by simp; omega), Option.bind_some, e4, Option.bind_some, if_pos ⟨by omega, by simp; omega⟩]
      exact ⟨x2, _, s4, rfl, k4, hx2, by simp; omega, by simp; omega⟩
    · rw [if_neg (by simpa using h1)]
      exact ⟨x2, _, s3, rfl, k3, hx2, hl2, by dsimp only; omega⟩

theorem bad3_ok (s : Src) (x : Col) (h : okS s) (hk : 1 ≤ x.k ∧ x.k ≤ 4) : ∃ y s', spec_l01Bad s x = some (y, s') ∧ okS s' ∧ -1 ≤ y.k ∧ y.k ≤ 5 := by
  unfold spec_l01Bad
  obtain ⟨v, s1, e1, k1, _, _⟩ := next_ok s 50 h
  rw [e1, Option.bind_some]
  dsimp only
  by_cases h0 : v = 0
  · obtain ⟨w, s2, e2, k2, _⟩ := pick_ok s1 [0, 18, -1, w64 (x.p - 1)] k1 (by simp)
    rw [if_pos (decide_eq_true h0), e2]
    exact ⟨_, s2, rfl, k2, by dsimp only; omega, by dsimp only; omega⟩
  · rw [if_neg (by simpa using h0)]
    by_cases h1 : v = 1
    · obtain ⟨w, s2, e2, k2, hw⟩ := pick_ok s1 [0, 5, -1] k1 (by simp)
      rw [if_pos (decide_eq_true h1), e2]
      simp at hw
      exact ⟨_, s2, rfl, k2, by dsimp only; omega, by dsimp only; omega⟩
    · rw [if_neg (by simpa using h1)]
      by_cases h2 : v = 2
      · obtain ⟨a, s2, e2, k2, ha, _⟩ := next_ok s1 136 k1
        obtain ⟨a0, a1⟩ := ha (by omega)
        obtain ⟨w, s3, e3, k3, _⟩ := pick_ok s2 [1, 4, 200] k2 (by simp)
        rw [if_pos (decide_eq_true h2), e2, Option.bind_some]
        dsimp only
        rw [e3, Option.bind_some, if_pos ⟨a0, a1⟩]
        exact ⟨_, s3, rfl, k3, by show -1 ≤ x.k; omega, by show x.k ≤ 5; omega⟩
      · rw [if_neg (by simpa using h2)]
        exact ⟨x, s1, rfl, k1, by omega, by omega⟩

theorem drawDeg_ok {k : Nat} (hk : 5000 ≤ k) (c : List UInt8) (hc : c.length ≤ 4096) : ∃ x sizes, spec_DrawExtensionsByDegree k c = some (x, sizes) ∧ sizes.length ≤ 10 := by
  unfold spec_DrawExtensionsByDegree spec_l05Draw
  obtain ⟨s, e1, k1⟩ := from_ok hk c hc
  obtain ⟨x, sizes, s2, e2, k2, hx, _, hl⟩ := with5_ok hk s k1
  obtain ⟨y, s3, e3, _⟩ := bad3_ok s2 x k2 hx.2
  refine ⟨y, sizes, ?_, hl⟩
  rw [e1, Option.bind_some, e2, Option.bind_some]
  dsimp only
  rw [e3]; rfl

theorem drawList_ok {k : Nat} (hk : 5000 ≤ k) (s : Src) (h : okS s) (n K : Int) (hn : 1 ≤ n ∧ n ≤ 17) : ∃ l s', spec_l03DrawList k s n K = some (l, s') ∧ okS s' ∧ (l.length : Int) = n := by
  unfold spec_l03DrawList
  have := loopI (f := fun k' i (st : Src × List Int) => spec_l03DrawList_l0 n K k' i st.1 st.2) n 0 (fun i st => i ≤ n ∧ okS st.1 ∧ (st.2.length : Int) = i) (fun r => okS r.1 ∧ (r.2.length : Int) = n) ?_ ?_ k 0 (s, []) (by omega) (by omega) ⟨by omega, h, rfl⟩
  · obtain ⟨⟨t, l⟩, e, h1, h2⟩ := this
    dsimp only at e h1 h2
    exact ⟨l, t, by rw [e]; rfl, h1, h2⟩
  · rintro k' i ⟨t, l⟩ h0 h1 ⟨q1, q2, q3⟩
    left
    dsimp only at q2 q3
    obtain ⟨v, t2, e2, k2, _, _⟩ := next_ok t K q2
    refine ⟨(t2, l ++ [v]), ?_, by omega, k2, by simp; omega⟩
    show spec_l03DrawList_l0 n K (k' + 1) i t l = _
    rw [spec_l03DrawList_l0, if_pos (decide_eq_true h1), e2, Option.bind_some, if_pos (by simp only [List.length_singleton]; omega), w64_succ h0 h1 (by omega)]
  · rintro k' i ⟨t, l⟩ h0 h1 ⟨q1, q2, q3⟩
    dsimp only at q2 q3
    refine ⟨(t, l), ?_, q2, by dsimp only; omega⟩
    show spec_l03DrawList_l0 n K (k' + 1) i t l = _
    rw [spec_l03DrawList_l0, if_neg (by simp only [decide_eq_true_eq]; omega)]

theorem drawIs_ok {k : Nat} (hk : 5000 ≤ k) (c : List UInt8) (hc : c.length ≤ 4096) : ∃ x sizes l, spec_DrawIsExtension k c = some (x, sizes, l) ∧ sizes.length ≤ 10 ∧ l.length ≤ 100 ∧ -1 ≤ x.k ∧ x.k ≤ 5 := by
  unfold spec_DrawIsExtension
  obtain ⟨s, e1, k1⟩ := from_ok hk c hc
  obtain ⟨x, sizes, s2, e2, k2, hx, _, hl⟩ := with5_ok hk s k1
  obtain ⟨l, s3, e3, k3, hll⟩ := drawList_ok hk s2 k2 x.p x.k hx.1
  have hxp := hx.1
  rw [e1, Option.bind_some, e2, Option.bind_some]
  dsimp only
  rw [e3, Option.bind_some, specSmall_val hk x sizes (by omega), Option.bind_some]
  dsimp only
  obtain ⟨b, s4, e4, k4, hb⟩ : ∃ b s4, ((if decide (eS x sizes 12 = 0) then (spec_l01Next s3 2).bind fun r6 => some (decide (r6.1 = 0), r6.2) else some (false, s3)) : Option (Bool × Src)) = some (b, s4) ∧ okS s4 ∧ (b = true → eS x sizes 12 = 0) := by
    by_cases h : eS x sizes 12 = 0
    · obtain ⟨v, s4, e4, k4, _, _⟩ := next_ok s3 2 k3
      exact ⟨_, s4, by rw [if_pos (decide_eq_true h), e4]; rfl, k4, fun _ => h⟩
    · exact ⟨false, s3, by rw [if_neg (by simpa using h)], k3, fun h => by cases h⟩
  rw [e4, Option.bind_some]
  dsimp only
  obtain ⟨s5, l2, e5, k5, hl2, hl2'⟩ : ∃ s5 l2, ((if b then (spec_l05All k x sizes 40).bind fun r9 => (if decide (0 < (r9.length : Int)) then (spec_l01Next s4 (r9.length : Int)).bind fun r11 => (if 0 ≤ r11.1 ∧ r11.1 < (r9.length : Int) then (spec_l01Own (r9.getD r11.1.toNat [])).bind fun r13 => some (r11.2, r13) else none) else some (s4, l)) else some (s4, l)) : Option (Src × List Int)) = some (s5, l2) ∧ okS s5 ∧ 1 ≤ l2.length ∧ l2.length ≤ 17 := by
    cases hbb : b with
    | false => exact ⟨s4, l, by rw [if_neg (by simp)], k4, by omega, by omega⟩
    | true =>
      obtain ⟨hi, hz, ha, h12⟩ := eS_zero (hb hbb)
      have hall := all_val hk hi.1 hi.2.1 hz (no_one hi.1.1 ha) 40 (by omega) (by omega)
      rw [show ((40 : Nat) : Int) = 40 from rfl] at hall
      have hlen : ∀ e ∈ (EX x sizes).take 40, e.length = x.p.toNat := fun e he => EX_len e (List.mem_of_mem_take he)
      generalize (EX x sizes).take 40 = R at *
      rw [if_pos rfl, hall, Option.bind_some]
      by_cases hR : 0 < (R.length : Int)
      · obtain ⟨j, t2, e5, k5, hj, _⟩ := next_ok s4 R.length k4
        obtain ⟨j0, j1⟩ := hj (by omega)
        have hm : R.getD j.toNat [] ∈ R := by
          have e : R.getD j.toNat [] = R[j.toNat]'(by omega) := by simp [show j.toNat < R.length by omega]
          rw [e]; exact List.getElem_mem _
        have := hlen _ hm
        unfold spec_l01Own
        rw [if_pos (decide_eq_true hR), e5, Option.bind_some, if_pos ⟨j0, j1⟩]
        dsimp only
        rw [if_pos (by simp only [List.length_nil]; omega)]
        exact ⟨t2, _, rfl, k5, by simp only [List.nil_append]; omega, by simp only [List.nil_append]; omega⟩
      · exact ⟨s4, l, by rw [if_neg (by simpa using hR)], k4, by omega, by omega⟩
  rw [e5, Option.bind_some]
  dsimp only
  obtain ⟨v, s6, e6, k6, _, _⟩ := next_ok s5 20 k5
  rw [e6, Option.bind_some]
  dsimp only
  obtain ⟨s7, l3, e7, k7, hl3⟩ : ∃ s7 l3, ((if decide (v = 0) then (if l2.length + ([0]).length ≤ 1099511627776 then some (s6, (l2 ++ ([0]))) else none) else (if decide (v = 1) then (spec_l01Pick s6 ([(-1), x.k])).bind fun r19 => (if 0 ≤ (0 : Int) ∧ (0 : Int) < (l2.length : Int) then some (r19.2, l2.set (0 : Int).toNat r19.1) else none) else some (s6, l2))) : Option (Src × List Int)) = some (s7, l3) ∧ okS s7 ∧ l3.length ≤ 100 := by
    by_cases h0 : v = 0
    · exact ⟨s6, l2 ++ [0], by rw [if_pos (decide_eq_true h0), if_pos (by simp; omega)], k6, by simp; omega⟩
    · by_cases h1 : v = 1
      · obtain ⟨w, s7, e7, k7, _⟩ := pick_ok s6 [-1, x.k] k6 (by simp)
        exact ⟨s7, _, by rw [if_neg (by simpa using h0), if_pos (decide_eq_true h1), e7, Option.bind_some, if_pos ⟨by omega, by omega⟩], k7, by simp; omega⟩
      · exact ⟨s6, l2, by rw [if_neg (by simpa using h0), if_neg (by simpa using h1)], k6, by omega⟩
  rw [e7, Option.bind_some]
  dsimp only
  obtain ⟨y, s8, e8, _, hy⟩ := bad3_ok s7 x k7 hx.2
  rw [e8]
  exact ⟨y, sizes, l3, rfl, hl, hl3, hy⟩

theorem drawLong_ok {k : Nat} (hk : 5000 ≤ k) (c : List UInt8) (hc : c.length ≤ 4096) : ∃ x sizes, spec_DrawLongestBeginning k c = some (x, sizes) ∧ sizes.length ≤ 10 := by
  unfold spec_DrawLongestBeginning
  obtain ⟨s, e1, k1⟩ := from_ok hk c hc
  obtain ⟨x, s2, e2, k2, hx⟩ := draw2 hk s k1
  obtain ⟨z, s3, e3, k3, hz1, hz2⟩ := sizes_ok hk s2 k2 x.k hx.2
  obtain ⟨v, s4, e4, k4, _, _⟩ := next_ok s3 20 k3
  have hx2 := hx.2
  rw [e1, Option.bind_some, e2, Option.bind_some]
  dsimp only
  rw [e3, Option.bind_some]
  dsimp only
  rw [e4, Option.bind_some]
  dsimp only
  obtain ⟨s5, z2, e5, k5, hl⟩ : ∃ s5 z2, ((if decide (v = 0) then (spec_l01Pick s4 ([1, 0, 18])).bind fun r6 => (if 0 ≤ (0 : Int) ∧ (0 : Int) < (z.length : Int) then some (r6.2, z.set (0 : Int).toNat r6.1) else none) else some (s4, z)) : Option (Src × List Int)) = some (s5, z2) ∧ okS s5 ∧ z2.length ≤ 10 := by
    by_cases h0 : v = 0
    · obtain ⟨w, s5, e5, k5, _⟩ := pick_ok s4 [1, 0, 18] k4 (by simp)
      exact ⟨s5, _, by rw [if_pos (decide_eq_true h0), e5, Option.bind_some, if_pos ⟨by omega, by omega⟩], k5, by simp; omega⟩
    · exact ⟨s4, z, by rw [if_neg (by simpa using h0)], k4, by omega⟩
  rw [e5, Option.bind_some]
  dsimp only
  obtain ⟨y, s6, e6, _⟩ := bad3_ok s5 x k5 hx.2
  rw [e6]
  exact ⟨y, z2, rfl, hl⟩

/-! ### The law -/
theorem list_loop {k : Nat} (hk : 5000 ≤ k) {x : Col} {sizes : List Int} (hs : eS x sizes 12 = 0) (o : Option (List (List Int))) (c : Int) (ho : ∀ e ∈ o.getD [], e ∈ EX x sizes) (hl : (o.getD []).length ≤ 200) :
    laws_FnExtensions_l0 k (x, sizes) (o, c) k 0 = some (.inl ()) := by
  obtain ⟨h, hz, ha, h12⟩ := eS_zero hs
  have hz4 := hz.1
  have hx4 := h.2.1
  have h16 : eS x sizes 16 = 0 := by
    unfold eS eC
    rw [if_pos h, if_pos hz, if_pos rfl, if_pos ha, if_neg (by omega)]
  have := loopI (f := fun k' i (_ : Unit) => laws_FnExtensions_l0 k (x, sizes) (o, c) k' i) ((o.getD []).length : Int) 0 (fun i _ => i ≤ (o.getD []).length) (fun r => r = .inl ()) ?_ ?_ k 0 () (by omega) (by omega) (by omega)
  · obtain ⟨r, e, rfl⟩ := this
    exact e
  · rintro k' i _ h0 h1 q
    by_cases hi12 : i < 12
    · left
      refine ⟨(), ?_, by omega⟩
      show laws_FnExtensions_l0 k (x, sizes) (o, c) (k' + 1) i = _
      have hm : (o.getD []).getD i.toNat [] ∈ o.getD [] := by
        have e : (o.getD []).getD i.toNat [] = (o.getD [])[i.toNat]'(by omega) := by simp [show i.toNat < (o.getD []).length by omega]
        rw [e]; exact List.getElem_mem _
      have he := ho _ hm
      have hel := EX_len _ he
      obtain ⟨b, cc, q1, _, q2⟩ := isExt_val hk x sizes ((o.getD []).getD i.toNat []) (by omega) (by omega) (by omega)
      obtain ⟨rfl, rfl⟩ := q2 h16 he
      obtain ⟨p1, p2⟩ := putPoint_val hk hs he
      rw [laws_FnExtensions_l0]
      simp only [letO, h1, hi12, decide_true, if_true, Option.bind_some]
      rw [if_pos ⟨h0, True.intro⟩, q1, Option.bind_some, if_pos ⟨h0, True.intro⟩, p1, Option.bind_some]
      dsimp only
      rw [p2, w64_succ h0 h1 (by omega)]
      rfl
    · right
      refine ⟨.inl (), ?_, rfl⟩
      show laws_FnExtensions_l0 k (x, sizes) (o, c) (k' + 1) i = _
      rw [laws_FnExtensions_l0]
      simp only [letO, h1, hi12, decide_true, decide_false, if_true, Option.bind_some, Bool.false_eq_true, if_false]
  · rintro k' i _ h0 h1 q
    refine ⟨.inl (), ?_, rfl⟩
    show laws_FnExtensions_l0 k (x, sizes) (o, c) (k' + 1) i = _
    have : ¬ i < ((o.getD []).length : Int) := by omega
    rw [laws_FnExtensions_l0]
    simp only [letO, this, decide_false, Option.bind_some, Bool.false_eq_true, if_false]

theorem extensions_pure (c : List UInt8) : ∃ k, laws_FnExtensions k c = some true := by
  obtain ⟨k, hk0⟩ : ∃ k : Nat, k = 6000 := ⟨_, rfl⟩
  refine ⟨k, ?_⟩
  have hk : 5000 ≤ k := by omega
  unfold laws_FnExtensions laws_big
  by_cases hb : (4096 : Int) < (c.length : Int)
  · rw [if_pos (decide_eq_true hb)]
  rw [if_neg (by simpa using hb)]
  have hc : c.length ≤ 4096 := by omega
  obtain ⟨x, sizes, e0, hl⟩ := drawDeg_ok hk c hc
  obtain ⟨o1, a1, b1, z1, len1, n1⟩ := deg_val hk x sizes (by omega)
  obtain ⟨v2, a2, b2, z2⟩ := count_val hk x sizes (by omega)
  obtain ⟨o3, c3, a3, b3, z3, len3⟩ := firstExt_val hk x sizes (by omega)
  obtain ⟨o4, c4, a4, b4, z4, len4, el4, n4, y4⟩ := listExt_val hk x sizes (by omega)
  obtain ⟨v5, c5, a5, b5, z5⟩ := closed_val hk x sizes (by omega)
  rw [e0, Option.bind_some]
  dsimp only
  rw [a1, Option.bind_some, b1, Option.bind_some, a2, Option.bind_some, b2, Option.bind_some, a3, Option.bind_some, b3, Option.bind_some, a4, Option.bind_some, b4, Option.bind_some, a5, Option.bind_some, b5, Option.bind_some]
  dsimp only
  rw [like_refl k (o1.getD []) (by omega) (by omega), like_refl k (o3.getD []) (by omega) (by omega), rows_refl k (o4.getD []) hk len4 el4]
  simp only [decide_true, Bool.not_true, Bool.false_eq_true, if_false, Option.bind_some, beq_self_eq_true]
  generalize hM : (if decide (eS x sizes 12 = 0) = true then _ else _ : Option (Sum Unit Bool)) = M
  have hMM : M = some (.inl ()) := by
    rw [← hM]
    by_cases h0 : eS x sizes 12 = 0
    · obtain ⟨hi, hz, ha, h12⟩ := eS_zero h0
      obtain ⟨hp, hk4⟩ := is_range hi
      obtain ⟨rfl, _⟩ := z1 h0
      have hv2 := z2 h0
      have hc3 := z3 h0
      have hv5 := z5 h0
      rw [if_pos (decide_eq_true h0)]
      simp only [Option.getD_some] at len1 ⊢
      rw [lawsSum_val _ k (by omega) (by omega), DG_sum (by omega) hk4, Option.bind_some, hv2]
      have t1 : decide (0 < ((EX x sizes).length : Int)) = decide (c3 = 0) := by
        apply decide_eq_decide.2
        rw [hc3]
        constructor
        · intro h h2; rw [h2] at h; simp at h
        · intro h; have := List.length_pos_iff.2 h; omega
      have t2 : v5 = decide (((EX x sizes).length : Int) = 0) := by
        cases v5 with
        | true => rw [hv5.1 rfl]; rfl
        | false =>
          symm
          apply decide_eq_false
          intro h
          have := hv5.2 (List.eq_nil_of_length_eq_zero (by omega))
          cases this
      have hloop : laws_FnExtensions_l0 k (x, sizes) (o4, c4) k 0 = some (.inl ()) := by
        refine list_loop hk h0 o4 c4 (fun e he => ?_) len4
        by_cases hc4 : c4 = 0
        · rw [z4 h0 hc4] at he; exact he
        · rw [n4 hc4] at he; simp at he
      rw [decide_eq_true rfl, t1, t2]
      simp only [Bool.not_true, Bool.false_eq_true, if_false, beq_self_eq_true]
      by_cases hc4 : c4 = 0
      · obtain rfl := z4 h0 hc4
        simp only [hc4, decide_true, if_true, Option.getD_some, Bool.not_true, Option.bind_some, Bool.false_eq_true, if_false]
        rw [hc4] at hloop
        exact hloop
      · simp only [hc4, decide_false, Bool.false_eq_true, if_false, Option.bind_some]
        exact hloop
    · rw [if_neg (by simpa using h0)]
  rw [hMM]
  simp only [Option.bind_some]
  obtain ⟨y, sz, l, f0, fl1, fl2, fk1, fk2⟩ := drawIs_ok hk c hc
  obtain ⟨b6, c6, a6, b6', _⟩ := isExt_val hk y sz l (by omega) (by omega) (by omega)
  obtain ⟨w, sw, g0, gl⟩ := drawLong_ok hk c hc
  obtain ⟨v7, c7, a7, b7, z7⟩ := long_val hk w sw (by omega)
  rw [f0, Option.bind_some]
  dsimp only
  rw [a6, Option.bind_some, b6', Option.bind_some, g0, Option.bind_some]
  dsimp only
  rw [a7, Option.bind_some, b7, Option.bind_some]
  simp only [letO, decide_true, Bool.not_true, Bool.false_eq_true, if_false, beq_self_eq_true, Option.bind_some]
  by_cases h7 : c7 = 0
  · obtain ⟨b8, a8, rfl⟩ := z7 h7
    rw [if_pos (decide_eq_true h7), a8]
    simp
  · rw [if_neg (by simpa using h7)]
end Go.Proofs.YtjcgphgipleccaaGreat
