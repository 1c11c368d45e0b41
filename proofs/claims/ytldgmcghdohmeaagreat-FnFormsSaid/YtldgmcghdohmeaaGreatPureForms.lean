/- The plain law of FnForms: least forms, orbits, automorphisms, self-alike colourings and classes are the reference's; isomorphic colourings have the same least form, orbits part the points. No conditions. -/
import Derived.Test.YtldgmcghdohmeaaGreatPureChB44
set_option linter.unusedVariables false
set_option linter.unusedSimpArgs false
namespace Go.Proofs.YtldgmcghdohmeaaGreat
open Go Go.RowKit Ab

/-! ### Draws -/
theorem drawLeast_ok {k : Nat} (hk : 5000 ≤ k) (c : List UInt8) (hc : c.length ≤ 4096) : ∃ x, spec_DrawLeastForm k c = some x := by
 unfold spec_DrawLeastForm
 obtain ⟨s0, e0, hs0⟩ := from_ok hk c hc
 obtain ⟨v, s1, e1, hs1, _⟩ := next_ok s0 12 hs0
 rw [e0, Option.bind_some, e1, Option.bind_some]
 by_cases h0 : v = 0
 ·obtain ⟨x, s2, e2, hs2⟩ := spoil_ok hk s1 hs1
  exact ⟨x, by rw [if_pos (decide_eq_true h0), e2]; rfl⟩
 ·obtain ⟨x, s2, e2, hs2, _⟩ := small2 hk s1 hs1
  obtain ⟨y, s3, e3, _⟩ := bad_ok s2 x hs2
  refine ⟨y, ?_⟩
  rw [if_neg (by simpa using h0), e2, Option.bind_some]
  dsimp only
  rw [e3]; rfl
theorem drawOrbits_ok {k : Nat} (hk : 5000 ≤ k) (c : List UInt8) (hc : c.length ≤ 4096) : ∃ x, spec_DrawPointOrbits k c = some x := by
 unfold spec_DrawPointOrbits
 obtain ⟨s0, e0, hs0⟩ := from_ok hk c hc
 obtain ⟨x, s1, e1, _⟩ := draw6_ok hk s0 hs0
 exact ⟨x, by rw [e0, Option.bind_some, e1]; rfl⟩
theorem near_ok (s : Src) (m : Int) (h : okS s) : ∃ v s', spec_l01Near s m = some (v, s') ∧ okS s' := by
 unfold spec_l01Near
 obtain ⟨v, s1, e1, hs1, _⟩ := next_ok s 14 h
 rw [e1, Option.bind_some]
 dsimp only
 by_cases h0 : v = 0
 ·obtain ⟨w, s2, e2, hs2, _⟩ := pick_ok s1 [(-1), w64 (m + 1), 1099511627776, (-4611686018427387904)] hs1 (by simp)
  exact ⟨w, s2, by rw [if_pos (decide_eq_true h0), e2]; rfl, hs2⟩
 ·obtain ⟨w, s2, e2, hs2, _⟩ := next_ok s1 (w64 (m + 1)) hs1
  exact ⟨w, s2, by rw [if_neg (by simpa using h0), e2]; rfl, hs2⟩
theorem drawClasses_ok {k : Nat} (hk : 5000 ≤ k) (c : List UInt8) (hc : c.length ≤ 4096) : ∃ n q, spec_DrawCountClasses k c = some (n, q) := by
 unfold spec_DrawCountClasses
 obtain ⟨s0, e0, hs0⟩ := from_ok hk c hc
 obtain ⟨n, s1, e1, hs1⟩ := near_ok s0 7 hs0
 obtain ⟨q, s2, e2, _⟩ := near_ok s1 4 hs1
 refine ⟨n, q, ?_⟩
 rw [e0, Option.bind_some, e1, Option.bind_some]
 dsimp only
 rw [e2]; rfl

/-! ### Points turned by one -/
def rt (n i : Nat) : Nat := if i + 1 = n then 0 else i + 1
def rtL (n : Nat) : List Int := mapL n fun i => (rt n i : Int)
theorem rtL_ord (n : Nat) : isOrd (rtL n) n := by
 have hl : (rtL n).length = n := mapL_length _ _
 have hg : ∀ i, i < n → (rtL n).getD i 0 = (rt n i : Int) := fun i hi => mapL_get _ _ _ hi
 refine ⟨by rw [hl], fun a ha => ?_, fun a b hab hb => ?_⟩
 ·rw [hl] at ha
  rw [hg a ha]
  unfold rt
  split <;> omega
 ·rw [hl] at hb
  rw [hg a (by omega), hg b hb]
  unfold rt
  split <;> split <;> omega
theorem turn_val {k : Nat} (hk : 100 ≤ k) {x : Col} (hp : 1 ≤ x.p ∧ x.p ≤ 17) : laws_FnForms_l1 x k 0 [] = some (rtL x.p.toNat) := by
 obtain ⟨N, hN⟩ : ∃ N : Nat, x.p = N := ⟨x.p.toNat, by omega⟩
 have := loopI (f := fun k' i (s : List Int) => laws_FnForms_l1 x k' i s) x.p 0 (fun i s => i ≤ x.p ∧ s = mapL i.toNat fun i => (rt N i : Int)) (fun s => s = rtL x.p.toNat) ?_ ?_ k 0 [] (by omega) (by omega) ⟨by omega, rfl⟩
 ·obtain ⟨r, e, rfl⟩ := this
  exact e
 ·rintro k' i s h0 h1 ⟨q1, rfl⟩
  obtain ⟨m, rfl⟩ := nat_of h0
  have hw := w64_succ h0 h1 (by omega)
  have hmod : ((m : Int) + 1).tmod x.p = (rt N m : Int) := by
   rw [Int.tmod_eq_emod_of_nonneg (by omega), hN]
   unfold rt
   by_cases e : m + 1 = N
   ·rw [if_pos e, show (m : Int) + 1 = (N : Int) by omega, Int.emod_self]; rfl
   ·rw [if_neg e, Int.emod_eq_of_lt (by omega) (by omega)]; omega
  left
  refine ⟨mapL (m + 1) fun i => (rt N i : Int), ?_, by omega, by rw [show ((m : Int) + 1).toNat = m + 1 by omega]⟩
  show laws_FnForms_l1 x (k' + 1) m _ = _
  rw [laws_FnForms_l1, if_pos (decide_eq_true h1), if_pos (by omega), hw, if_pos (by rw [mapL_length, List.length_singleton]; omega), hmod, mapL_succ, Int.toNat_natCast]
 ·rintro k' i s h0 h1 ⟨q1, rfl⟩
  refine ⟨_, ?_, rfl⟩
  show laws_FnForms_l1 x (k' + 1) i _ = _
  rw [laws_FnForms_l1, if_neg (by simp only [decide_eq_true_eq]; omega), show i.toNat = x.p.toNat by omega]
  unfold rtL
  rw [show N = x.p.toNat by omega]

/-! ### The three parts of the law -/
theorem least_part {k : Nat} (hk : 60000 ≤ k) (x : Col) : ∃ z e, impl_LeastForm k x = some (z, e) ∧ spec_LeastForm k x = some (z, e) ∧ (e ≠ 0 → z.p = 0) ∧
  (e = 0 → ∃ L y, impl_AreIsomorphic k x z = some (true, 0) ∧ laws_FnForms_l1 x k 0 [] = some L ∧ impl_RenumberPoints k x L = some (y, 0) ∧ impl_LeastForm k y = some (z, 0)) := by
 by_cases h : x.is ∧ x.p ≤ 6
 ·obtain ⟨hx, h6⟩ := h
  have hp := hx.1
  obtain ⟨⟨p, p1, p2⟩, _⟩ := leastC_is hx
  have ho := to_ord hp (rtL_ord x.p.toNat)
  have hr := ren_is hx ho
  have hrp := ren_p x hx ho
  refine ⟨leastC x, 0, implLeast_val hk hx h6, specLeast_val hk hx h6, fun h => absurd rfl h, fun _ => ⟨rtL x.p.toNat, ren x (rtL x.p.toNat), ?_, turn_val (by omega) hp, renum_val (by omega) hx ho, ?_⟩⟩
  ·rw [implIso_val (by omega) hx (leastC_pk hx).2.2]
   have := RN_ren hx p1
   rw [← p2] at this
   have hne : RN x (leastC x) ≠ [] := fun e => by rw [e] at this; simp at this
   rw [decide_eq_true hne]
  ·rw [implLeast_val hk hr (by rw [hrp]; exact h6), leastC_ren hx ho]
 ·obtain ⟨e, he, e1, e2⟩ := least_bad hk h
  exact ⟨zC, e, e1, e2, fun _ => rfl, fun h0 => absurd h0 he⟩
theorem orbit_part {k : Nat} (hk : 60000 ≤ k) (y : Col) : ∃ o t c e b f, impl_PointOrbits k y = some (o, t) ∧ spec_PointOrbits k y = some (o.getD [], t) ∧ laws_rows9 k (o.getD []) (o.getD []) = some true ∧ impl_CountAutomorphisms k y = some (c, e) ∧ spec_CountAutomorphisms k y = some (c, e) ∧
  impl_IsSelfAlike k y = some (b, f) ∧ spec_IsSelfAlike k y = some (b, f) ∧ (t = 0 → laws_FnForms_l0 (o, t) (c, e) k 0 0 = some (.inl y.p)) ∧
  (f = 0 → b = true → y.k = 2 → ∃ L : List Int, impl_CountEdges k y = some (some L, 0) ∧ L.length = 2 ∧ L.getD 0 0 = L.getD 1 0) := by
 classical
 by_cases hy : y.is
 ·have hp := hy.1
  have hlen : (OL (mv y) y.p.toNat y.p.toNat).length ≤ 17 := by
   unfold OL
   rw [List.length_map]
   have := reps_le (R := mv y) y.p.toNat
   omega
  refine ⟨some (OL (mv y) y.p.toNat y.p.toNat), 0, (numA y).1, (numA y).2, selfA y, 0, implOrbits_val (by omega) hy, specOrbits_val (by omega) hy, rows9_refl k _ (by show (OL (mv y) y.p.toNat y.p.toNat).length + 1 ≤ k; omega) (by show ((OL (mv y) y.p.toNat y.p.toNat).length : Int) ≤ _; omega) (fun l hl => ?_),
   implCount_val (by omega) hy, specCount_val (by omega) hy, implSelf_val (by omega) hy, specSelf_val (by omega) hy, fun _ => forms_l0 hy (by omega) _ _ fun he => ?_, fun _ hb h2 => ⟨_, countE_val (by omega) hy, ?_, ?_⟩⟩
  ·obtain ⟨p, _, rfl⟩ := List.mem_map.1 (show l ∈ (reps (mv y) y.p.toNat).map (rowR (mv y) y.p.toNat) from hl)
   have := row_le (R := mv y) y.p.toNat p
   omega
  ·unfold numA at he ⊢
   by_cases h : 20000 < (RN y y).length
   ·rw [if_pos h] at he; simp at he
   ·rw [if_neg h]
  ·rw [mapL_length, h2]; rfl
  ·rw [mapL_get _ _ _ (by rw [h2]; decide), mapL_get _ _ _ (by rw [h2]; decide), self_edges hy h2 hb]
 ·have hcode := (code_cases (k := k) (by omega) y).2 hy
  refine ⟨none, 1, 0, 1, false, 1, ?_, ?_, rows9_refl k [] (by simp; omega) (by simp) (fun l hl => by cases hl), ?_, ?_, ?_, ?_, fun h => by omega, fun h => by omega⟩
  ·unfold impl_PointOrbits; rw [hcode]; rfl
  ·unfold spec_PointOrbits; rw [specIs_eq k (by omega), decide_eq_false hy]; rfl
  ·unfold impl_CountAutomorphisms; rw [hcode]; rfl
  ·unfold spec_CountAutomorphisms; rw [specIs_eq k (by omega), decide_eq_false hy]; rfl
  ·unfold impl_IsSelfAlike; rw [hcode]; rfl
  ·unfold spec_IsSelfAlike; rw [specIs_eq k (by omega), decide_eq_false hy]; rfl
theorem class_part (n q : Int) : ∃ v e, impl_CountClasses 1000000 n q = some (v, e) ∧ spec_CountClasses 1000000 n q = some (v, e) ∧ (e = 0 → 1 ≤ v ∧ (n = 1 → v = 1) ∧ (n = 2 → v = q)) := by
 by_cases h : (1 ≤ n ∧ n ≤ 7) ∧ 1 ≤ q ∧ q ≤ 4
 ·obtain ⟨a, rfl⟩ : ∃ a : Nat, n = a := ⟨n.toNat, by omega⟩
  obtain ⟨b, rfl⟩ : ∃ b : Nat, q = b := ⟨q.toNat, by omega⟩
  obtain ⟨v, h1, e1, e2⟩ := classes_val (n := a) (q := b) (by omega) (by omega) (by omega) (by omega) (Nat.le_refl _)
  have hone := classes_one ⟨b - 1, by omega⟩
  have hb : ((b - 1 : Nat) : Int) + 1 = (b : Int) := by omega
  rw [hb] at hone
  refine ⟨v, 0, e1, e2, fun _ => ⟨h1, fun ha => ?_, fun ha => ?_⟩⟩
  ·rw [ha, hone.1] at e1
   have := Option.some.inj e1
   exact (congrArg Prod.fst this).symm
  ·rw [ha, hone.2] at e1
   have := Option.some.inj e1
   exact (congrArg Prod.fst this).symm
 ·obtain ⟨h1, h2⟩ := classes_bad h 1000000
  exact ⟨0, 2, h1, h2, fun h => by omega⟩
theorem forms_pure (p0 : List UInt8) : ∃ k, laws_FnForms k p0 = some true := by
 refine ⟨1000000, ?_⟩
 unfold laws_FnForms laws_big
 by_cases hb : 4096 < (p0.length : Int)
 ·rw [if_pos (decide_eq_true hb)]
 ·rw [if_neg (by simp only [decide_eq_true_eq]; exact hb)]
  obtain ⟨k, hkk⟩ : ∃ k, k = 1000000 := ⟨_, rfl⟩
  have hk : 60000 ≤ k := by omega
  obtain ⟨n, q, d3⟩ := drawClasses_ok (k := k) (by omega) p0 (by omega)
  obtain ⟨v, ce, c1, c2, c3⟩ := class_part n q
  rw [← hkk] at c1 c2 ⊢
  clear hkk
  obtain ⟨x, d1⟩ := drawLeast_ok (k := k) (by omega) p0 (by omega)
  obtain ⟨y, d2⟩ := drawOrbits_ok (k := k) (by omega) p0 (by omega)
  obtain ⟨z, le, l1, l2, l3, l4⟩ := least_part hk x
  obtain ⟨o, t, c, e, b, f, o1, o2, o3, o4, o5, o6, o7, o8, o9⟩ := orbit_part hk y
  have hz : z.eqb z = true := eqb_refl' z
  have hcl : (if decide (ce = 0) = true then if decide (v < 1) = true then true else if decide (n = 1) = true then if (!decide (v = 1)) = true then true else if decide (n = 2) = true then !decide (v = q) else false else if decide (n = 2) = true then !decide (v = q) else false else false) = false := by
   by_cases h : ce = 0
   ·obtain ⟨g1, g2, g3⟩ := c3 h
    rw [if_pos (decide_eq_true h), if_neg (by simp only [decide_eq_true_eq]; omega)]
    by_cases h1 : n = 1
    ·rw [if_pos (decide_eq_true h1), g2 h1]
     have : ¬ n = 2 := by omega
     simp [this]
    ·rw [if_neg (by simpa using h1)]
     by_cases h2 : n = 2
     ·rw [if_pos (decide_eq_true h2), g3 h2]; simp
     ·rw [if_neg (by simpa using h2)]
   ·rw [if_neg (by simpa using h)]
  rw [d1, d2, d3]
  simp only [Option.bind_some, l1, l2, o1, o2, o3, o4, o5, o6, o7, c1, c2, letO, decide_true, Bool.not_true, Bool.false_eq_true, if_false, hz, beq_self_eq_true, hcl]
  have key1 : ∀ (X : Option (Sum Unit Bool)), (t = 0 → X = some (.inl ())) → (if decide (t = 0) = true then X else some (.inl ())) = some (.inl ()) := fun X h => by
   by_cases ht : t = 0
   ·rw [if_pos (decide_eq_true ht)]; exact h ht
   ·rw [if_neg (by simpa using ht)]
  have key2 : ∀ (X : Option (Sum Unit Bool)), (f = 0 → b = true → y.k = 2 → X = some (.inl ())) → (if (if decide (f = 0) = true then if b = true then decide (y.k = 2) else false else false) = true then X else some (.inl ())) = some (.inl ()) := fun X h => by
   by_cases hf : f = 0
   ·rw [decide_eq_true hf]
    cases hbb : b with
    | false => rfl
    | true =>
     by_cases h2 : y.k = 2
     ·rw [decide_eq_true h2]; exact h hf hbb h2
     ·rw [decide_eq_false h2]; rfl
   ·rw [decide_eq_false hf]; rfl
  rw [key1 _ (fun ht => by rw [o8 ht, Option.bind_some]; simp only [decide_true, Bool.not_true, Bool.false_eq_true, if_false])]
  simp only [Option.bind_some]
  rw [key2 _ (fun hf hbb h2 => by
   obtain ⟨L, q1, q2, q3⟩ := o9 hf hbb h2
   match L, q2, q3, q1 with
   | [a1, a2], _, q3, q1 =>
    have q4 : a1 = a2 := q3
    subst q4
    rw [q1]
    simp)]
  simp only [Option.bind_some]
  by_cases hle : le = 0
  ·obtain ⟨L, w, w1, w2, w3, w4⟩ := l4 hle
   simp [hle, w1, w2, w3, w4, hz]
  ·simp [hle, l3 hle]
end Go.Proofs.YtldgmcghdohmeaaGreat
