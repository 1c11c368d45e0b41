/- The plain law of FnBounds. No conditions beyond those that each lemma states. -/
import Derived.Test.YtghhnpdhehjlaaaGreatPureCh38
set_option linter.unusedVariables false
set_option linter.unusedSimpArgs false
namespace Go.Proofs.YtghhnpdhehjlaaaGreat
open Go Go.RowKit Ab

/-! ### The draws -/
theorem two_ok {k : Nat} (hk : 5000 ≤ k) (c : List UInt8) (hc : c.length ≤ 4096) (p q : Int) : ∃ a b, spec_l08Two k c p q = some (a, b) := by
  obtain ⟨s, h1, hs⟩ := from_ok hk c hc
  obtain ⟨v2, s2, h2, hs2, _⟩ := next_ok s (w64 ((w64 (q - p)) + 1)) hs
  obtain ⟨v3, s3, h3, hs3, _⟩ := pick_ok s2 [4, w64 ((w64 (q - p)) + 1)] hs2 (by simp)
  obtain ⟨v4, s4, h4, hs4, _⟩ := next_ok s3 v3 hs3
  obtain ⟨v5, s5, h5, hs5, _⟩ := next_ok s4 24 hs4
  obtain ⟨v6, s6, h6, _⟩ := pick_ok s5 [w64 (p - 1), w64 (q + 1), (-4611686018427387904)] hs5 (by simp)
  obtain ⟨v7, s7, h7, _⟩ := pick_ok s5 [w64 (p - 1), w64 (q + 1), 1099511627776] hs5 (by simp)
  unfold spec_l08Two
  rw [h1, Option.bind_some, h2, Option.bind_some]
  simp only
  rw [h3, Option.bind_some]
  simp only
  rw [h4, Option.bind_some]
  simp only
  rw [h5, Option.bind_some]
  simp only
  by_cases e0 : v5 = 0
  · rw [decide_eq_true e0, if_pos rfl, h6]
    exact ⟨_, _, rfl⟩
  · rw [decide_eq_false e0, if_neg (by simp)]
    by_cases e1 : v5 = 1
    · rw [decide_eq_true e1, if_pos rfl, h7]
      exact ⟨_, _, rfl⟩
    · rw [decide_eq_false e1, if_neg (by simp)]
      exact ⟨_, _, rfl⟩
theorem drawKn_ok {k : Nat} (hk : 5000 ≤ k) (c : List UInt8) (hc : c.length ≤ 4096) : ∃ a b, spec_DrawKnownNumber k c = some (a, b) := by
  obtain ⟨s, h1, hs⟩ := from_ok hk c hc
  obtain ⟨v2, s2, h2, hs2, _⟩ := next_ok s 2 hs
  obtain ⟨v3, s3, h3, hs3, _⟩ := next_ok s2 5 hs2
  obtain ⟨v4, s4, h4, hs4, _⟩ := next_ok s3 5 hs3
  obtain ⟨a, b, h5⟩ := two_ok hk c hc 1 17
  unfold spec_DrawKnownNumber
  rw [h1, Option.bind_some, h2, Option.bind_some]
  simp only
  by_cases e : v2 = 0
  · rw [decide_eq_true e, if_pos rfl, h3, Option.bind_some, h4]
    exact ⟨_, _, rfl⟩
  · rw [decide_eq_false e, if_neg (by simp), h5]
    exact ⟨_, _, rfl⟩
theorem drawNb_loop : ∀ (d k' : Nat) (s : Src) (l : List Int), d < k' → okS s → l.length + d ≤ 100 → d ≤ 100 → ∃ s' l', spec_DrawNeighbourBound_l0 k' (d : Int) s l = some (s', l') ∧ okS s' ∧ l'.length = l.length + d := by
  intro d
  induction d with
  | zero =>
    intro k' s l hk hs hl _
    obtain ⟨k', rfl⟩ : ∃ q, k' = q + 1 := ⟨k' - 1, by omega⟩
    rw [spec_DrawNeighbourBound_l0, decide_eq_false (by omega), if_neg (by simp)]
    exact ⟨s, l, rfl, hs, rfl⟩
  | succ d ih =>
    intro k' s l hk hs hl hd
    obtain ⟨k', rfl⟩ : ∃ q, k' = q + 1 := ⟨k' - 1, by omega⟩
    obtain ⟨v, s1, h1, hs1, _⟩ := next_ok s 8 hs
    obtain ⟨u, s2, h2, hs2, _⟩ := pick_ok s1 [2, 3, 3, 4, 4, 5, w64 (1 + v)] hs1 (by simp)
    rw [spec_DrawNeighbourBound_l0, decide_eq_true (by omega), if_pos rfl, h1, Option.bind_some, h2, Option.bind_some, if_pos (by simp; omega), w64_id (by omega), show ((d + 1 : Nat) : Int) - 1 = (d : Int) by omega]
    obtain ⟨s', l', e, hs', hl'⟩ := ih k' s2 (l ++ [u]) (by omega) hs2 (by simp; omega) (by omega)
    exact ⟨s', l', e, hs', by rw [hl']; simp; omega⟩
theorem drawNb_ok {k : Nat} (hk : 5000 ≤ k) (c : List UInt8) (hc : c.length ≤ 4096) : ∃ l, spec_DrawNeighbourBound k c = some l ∧ l.length ≤ 100 := by
  obtain ⟨s, h1, hs⟩ := from_ok hk c hc
  obtain ⟨v, s2, h2, hs2, hv⟩ := pick_ok s [1, 2, 2, 2, 3, 3, 4] hs (by simp)
  have hv4 : 1 ≤ v ∧ v ≤ 4 := by simp at hv; omega
  obtain ⟨s3, l, h3, hs3, hl⟩ := drawNb_loop v.toNat k s2 [] (by omega) hs2 (by simp; omega) (by omega)
  rw [show ((v.toNat : Nat) : Int) = v by omega] at h3
  simp only [List.length_nil] at hl
  obtain ⟨u, s4, h4, hs4, _⟩ := next_ok s3 24 hs3
  obtain ⟨w, s5, h5, _⟩ := pick_ok s4 [0, 9] hs4 (by simp)
  unfold spec_DrawNeighbourBound
  rw [h1, Option.bind_some, h2, Option.bind_some]
  simp only
  rw [h3, Option.bind_some]
  simp only
  rw [h4, Option.bind_some]
  simp only
  by_cases e0 : u = 0
  · rw [decide_eq_true e0, if_pos rfl, if_pos (by simp; omega)]
    exact ⟨_, rfl, by simp; omega⟩
  rw [decide_eq_false e0, if_neg (by simp)]
  by_cases e1 : u = 1
  · rw [decide_eq_true e1, if_pos rfl, h5, Option.bind_some, if_pos (by omega)]
    exact ⟨_, rfl, by simp; omega⟩
  rw [decide_eq_false e1, if_neg (by simp)]
  by_cases e2 : u = 2
  · rw [decide_eq_true e2, if_pos rfl]
    exact ⟨_, rfl, by simp⟩
  · rw [decide_eq_false e2, if_neg (by simp)]
    exact ⟨_, rfl, by omega⟩
theorem draw12_ok {k : Nat} (hk : 5000 ≤ k) (c : List UInt8) (hc : c.length ≤ 4096) : ∃ m : Nat, m < 12 ∧ spec_DrawCountingBound k c = some (m : Int) ∧ spec_DrawTriangleBound k c = some (m : Int) := by
  obtain ⟨s, h1, hs⟩ := from_ok hk c hc
  obtain ⟨v, s2, h2, hs2, hv, _⟩ := next_ok s 12 hs
  have := hv (by omega)
  refine ⟨v.toNat, by omega, ?_, ?_⟩
  · unfold spec_DrawCountingBound
    rw [h1, Option.bind_some, h2, show ((v.toNat : Nat) : Int) = v by omega]; rfl
  · unfold spec_DrawTriangleBound
    rw [h1, Option.bind_some, h2, show ((v.toNat : Nat) : Int) = v by omega]; rfl
theorem drawPd_ok {k : Nat} (hk : 5000 ≤ k) (c : List UInt8) (hc : c.length ≤ 4096) : ∃ x y, spec_DrawProductColouring k c = some (x, y) := by
  obtain ⟨s, h1, hs⟩ := from_ok hk c hc
  obtain ⟨v, s2, h2, hs2, _⟩ := next_ok s 6 hs
  unfold spec_DrawProductColouring
  rw [h1, Option.bind_some, h2, Option.bind_some]
  simp only
  by_cases e : v = 0
  · obtain ⟨x, s3, h3, hs3⟩ := spoil_ok hk s2 hs2
    obtain ⟨y, s4, h4, hs4⟩ := spoil_ok hk s3 hs3
    rw [decide_eq_true e, if_pos rfl, h3, Option.bind_some, h4]
    exact ⟨_, _, rfl⟩
  · obtain ⟨v3, s3, h3, hs3, q3, _⟩ := next_ok s2 5 hs2
    obtain ⟨v4, s4, h4, hs4, q4, _⟩ := next_ok s3 2 hs3
    have r3 := q3 (by omega)
    have r4 := q4 (by omega)
    obtain ⟨x, s5, h5, hs5, _⟩ := drawOf_ok hk s4 (w64 (1 + v3)) (w64 (1 + v4)) hs4 (by rw [w64_id (by omega)]; omega)
    obtain ⟨v6, s6, h6, hs6, q6, _⟩ := next_ok s5 4 hs5
    obtain ⟨v7, s7, h7, hs7, q7, _⟩ := next_ok s6 2 hs6
    have r6 := q6 (by omega)
    have r7 := q7 (by omega)
    obtain ⟨y, s8, h8, hs8, _⟩ := drawOf_ok hk s7 (w64 (1 + v6)) (w64 (1 + v7)) hs7 (by rw [w64_id (by omega)]; omega)
    rw [decide_eq_false e, if_neg (by simp), h3, Option.bind_some]
    simp only
    rw [h4, Option.bind_some]
    simp only
    rw [h5, Option.bind_some]
    simp only
    rw [h6, Option.bind_some]
    simp only
    rw [h7, Option.bind_some]
    simp only
    rw [h8]
    exact ⟨_, _, rfl⟩

/-! ### The bound by neighbours of two sizes -/
def r2 : Nat → Nat → Nat → Int
  | 0, _, _ => 0
  | d + 1, a, b => if a = 1 ∨ b = 1 then 1 else if a = 2 then b else if b = 2 then a else
    r2 d (a - 1) b + r2 d a (b - 1) - (if (r2 d (a - 1) b).tmod 2 = 0 ∧ (r2 d a (b - 1)).tmod 2 = 0 then 1 else 0)
theorem nbv_sing {m : Int} (hm : 3 ≤ m ∧ m ≤ 8) : nbv [m] = m := by
  have es : sorted [m] = [m] := srt_of (.refl _) (List.pairwise_singleton ..)
  have hw1 : wfs [m] := ⟨by simp, by simp, List.pairwise_singleton .., fun z hz => by rw [List.mem_singleton] at hz; subst hz; omega⟩
  unfold nbv
  rw [es, nb8_eq hw1]
  unfold nbB
  have h2 : ¬ m = 2 := by omega
  have er : rst [m] = [m] := by simp [rst, h2]
  have e1 : ([m] : List Int).getD 0 0 = m := rfl
  rw [er, e1, if_neg (by omega), if_neg (by simp), if_pos (by simp)]
theorem pair_wfu {a b : Int} (ha : 1 ≤ a ∧ a ≤ 8) (hb : 1 ≤ b ∧ b ≤ 8) : wfu [a, b] := ⟨by simp, by simp, fun z hz => by simp at hz; omega⟩
theorem nbv_2 {b : Int} (hb : 2 ≤ b ∧ b ≤ 8) : nbv [2, b] = b := by
  rw [nbv_rst (pair_wfu (by omega) (by omega)) (by simp; omega)]
  by_cases e : b = 2
  · subst e
    have : rst [(2 : Int), 2] = [] := by simp [rst]
    rw [this, nbv_nil]
  · have : rst [(2 : Int), b] = [b] := by simp [rst, e]
    rw [this, nbv_sing (by omega)]
theorem nbv_r2 : ∀ d a b : Nat, (1 ≤ a ∧ a ≤ 8) → (1 ≤ b ∧ b ≤ 8) → a + b ≤ d → nbv [(a : Int), (b : Int)] = r2 d a b := by
  intro d
  induction d with
  | zero => intro a b ha hb h; omega
  | succ d ih =>
    intro a b ha hb h
    rw [r2]
    by_cases h1 : a = 1 ∨ b = 1
    · rw [if_pos h1]
      refine nbv_one (pair_wfu (by omega) (by omega)) ?_
      rcases h1 with rfl | rfl <;> simp
    rw [if_neg h1]
    by_cases h2 : a = 2
    · rw [if_pos h2]; subst h2; exact nbv_2 (by omega)
    rw [if_neg h2]
    by_cases h3 : b = 2
    · rw [if_pos h3]; subst h3
      rw [nbv_perm (show [(a : Int), ((2 : Nat) : Int)].Perm [((2 : Nat) : Int), (a : Int)] from .swap ..)]
      exact nbv_2 (by omega)
    rw [if_neg h3, nbv_two (by omega) (by omega)]
    have e1 := ih (a - 1) b (by omega) (by omega) (by omega)
    have e2 := ih a (b - 1) (by omega) (by omega) (by omega)
    rw [show ((a - 1 : Nat) : Int) = (a : Int) - 1 by omega] at e1
    rw [show ((b - 1 : Nat) : Int) = (b : Int) - 1 by omega] at e2
    rw [e1, e2]
theorem nb_pair {k : Nat} (hk : 5000 ≤ k) {a b : Nat} (ha : 1 ≤ a ∧ a ≤ 8) (hb : 1 ≤ b ∧ b ≤ 8) : impl_NeighbourBound k [(a : Int), (b : Int)] = some (r2 16 a b, 0) := by
  have hw := pair_wfu (a := (a : Int)) (b := (b : Int)) (by omega) (by omega)
  have hs := two_small hw (by simp)
  have e := nbv_r2 16 a b ha hb (by omega)
  have e' : nb8 (sorted [(a : Int), (b : Int)]) = r2 16 a b := e
  rw [e] at hs
  have hcc : (1 ≤ ([(a : Int), (b : Int)] : List Int).length ∧ ([(a : Int), (b : Int)] : List Int).length ≤ 4) ∧ ∀ z ∈ ([(a : Int), (b : Int)] : List Int), 1 ≤ z ∧ z ≤ 8 := ⟨⟨by simp, by simp⟩, hw.rg⟩
  rw [implNb_val hk _ (by simp), if_pos hcc, e', if_neg (by omega)]

/-! ### The small numbers -/
def same (u v : Option (Int × Int)) (P : Int → Int → Bool) : Bool := match u, v with
  | some (a, e), some (b, f) => decide (a = b) && decide (e = f) && P a e
  | _, _ => false
theorem same_ok {u v : Option (Int × Int)} {P : Int → Int → Bool} (h : same u v P = true) : ∃ a e, u = some (a, e) ∧ v = some (a, e) ∧ P a e = true := by
  unfold same at h
  split at h
  · rename_i a e b f
    simp at h
    obtain ⟨⟨rfl, rfl⟩, h3⟩ := h
    exact ⟨a, e, rfl, rfl, h3⟩
  · cases h
theorem bin_all : ∀ a, a < 17 → ∀ b, b < 17 → (decide (1 ≤ a) && decide (1 ≤ b)) = true → same (impl_BinomialBound 200000 (a : Nat) (b : Nat)) (spec_BinomialBound 200000 (a : Nat) (b : Nat)) (fun v e => decide (e = 0) && (!(decide (a ≤ 8) && decide (b ≤ 8)) || decide (r2 16 a b ≤ v))) = true := by decide +kernel
theorem cnt_all : ∀ m : Nat, m < 12 → same (impl_CountingBound 200000 (m : Nat)) (spec_CountingBound 200000 (m : Nat)) (fun v e => !decide (e = 0) || (decide (2 ≤ m) && (!decide (m ≤ 8) || decide (v < r2 16 m m)))) = true := by decide +kernel
theorem tri_all' : ∀ m : Nat, m < 12 → same (impl_TriangleBound 200000 (m : Nat)) (spec_TriangleBound 200000 (m : Nat)) (fun _ _ => true) = true := by decide +kernel
theorem kn_all : ∀ a, a < 18 → ∀ b, b < 18 → (decide (1 ≤ a) && decide (1 ≤ b)) = true → same (impl_KnownNumber (a : Nat) (b : Nat)) (spec_KnownNumber (a : Nat) (b : Nat)) (fun v e => if e = 0 then decide (1 ≤ v) && (!(decide (a ≤ 8) && decide (b ≤ 8)) || decide (v ≤ r2 16 a b)) else decide (v = 0)) = true := by decide +kernel

theorem bin_ok (a b : Int) : ∃ v, impl_BinomialBound 200000 a b = some v ∧ spec_BinomialBound 200000 a b = some v := by
  by_cases h : (1 ≤ a ∧ a ≤ 16) ∧ 1 ≤ b ∧ b ≤ 16
  · obtain ⟨x, rfl⟩ := nat_of (show 0 ≤ a by omega)
    obtain ⟨y, rfl⟩ := nat_of (show 0 ≤ b by omega)
    obtain ⟨v, e, h1, h2, _⟩ := same_ok (bin_all x (by omega) y (by omega) (by simp; omega))
    exact ⟨_, h1, h2⟩
  · refine ⟨(0, 2), ?_, ?_⟩
    · unfold impl_BinomialBound
      rw [in_eq, in_eq]
      have : (if (!decide (1 ≤ a ∧ a ≤ 16)) = true then true else !decide (1 ≤ b ∧ b ≤ 16)) = true := by
        by_cases h1 : 1 ≤ a ∧ a ≤ 16
        · rw [decide_eq_true h1, Bool.not_true, if_neg (by simp), decide_eq_false (fun q => h ⟨h1, q⟩)]; rfl
        · rw [decide_eq_false h1]; rfl
      simp only [letO]
      rw [this]; rfl
    · unfold spec_BinomialBound
      rw [specIn_eq, specIn_eq]
      have : (if (!decide (1 ≤ a ∧ a ≤ 16)) = true then true else !decide (1 ≤ b ∧ b ≤ 16)) = true := by
        by_cases h1 : 1 ≤ a ∧ a ≤ 16
        · rw [decide_eq_true h1, Bool.not_true, if_neg (by simp), decide_eq_false (fun q => h ⟨h1, q⟩)]; rfl
        · rw [decide_eq_false h1]; rfl
      simp only [letO]
      rw [this]; rfl
theorem kn_ok (a b : Int) : ∃ v e, impl_KnownNumber a b = some (v, e) ∧ spec_KnownNumber a b = some (v, e) ∧ (e ≠ 0 → v = 0) ∧ (e = 0 → 1 ≤ v ∧ (1 ≤ a ∧ 1 ≤ b) ∧ (a ≤ 8 ∧ b ≤ 8 → v ≤ r2 16 a.toNat b.toNat)) := by
  by_cases h : (1 ≤ a ∧ a ≤ 17) ∧ 1 ≤ b ∧ b ≤ 17
  · obtain ⟨x, rfl⟩ := nat_of (show 0 ≤ a by omega)
    obtain ⟨y, rfl⟩ := nat_of (show 0 ≤ b by omega)
    obtain ⟨v, e, h1, h2, h3⟩ := same_ok (kn_all x (by omega) y (by omega) (by simp; omega))
    refine ⟨v, e, h1, h2, fun he => ?_, fun he => ?_⟩
    · rw [if_neg he] at h3; simpa using h3
    · rw [if_pos he, Bool.and_eq_true, Bool.or_eq_true, decide_eq_true_iff, decide_eq_true_iff] at h3
      refine ⟨h3.1, by omega, fun h8 => ?_⟩
      rw [Int.toNat_natCast, Int.toNat_natCast]
      rcases h3.2 with q | q
      · rw [decide_eq_true (show x ≤ 8 by omega), decide_eq_true (show y ≤ 8 by omega)] at q; cases q
      · exact q
  · have : (if (!decide (1 ≤ a ∧ a ≤ 17)) = true then true else !decide (1 ≤ b ∧ b ≤ 17)) = true := by
      by_cases h1 : 1 ≤ a ∧ a ≤ 17
      · rw [decide_eq_true h1, Bool.not_true, if_neg (by simp), decide_eq_false (fun q => h ⟨h1, q⟩)]; rfl
      · rw [decide_eq_false h1]; rfl
    refine ⟨0, 2, ?_, ?_, fun _ => rfl, fun h => by cases h⟩
    · unfold impl_KnownNumber
      rw [in_eq, in_eq]
      simp only [letO]
      rw [this]; rfl
    · unfold spec_KnownNumber
      rw [specIn_eq, specIn_eq]
      simp only [letO]
      rw [this]; rfl
theorem star_ok (a b : Int) : ∃ v, impl_StarNumber a b = some v ∧ spec_StarNumber a b = some v := by
  unfold impl_StarNumber spec_StarNumber impl_areThousand
  rw [in_eq, in_eq, specIn_eq, specIn_eq]
  simp only [letO]
  cases decide (1 ≤ a ∧ a ≤ 1000) <;> cases decide (1 ≤ b ∧ b ≤ 1000) <;> cases decide (a.tmod 2 = 0) <;> cases decide (b.tmod 2 = 0) <;> exact ⟨_, rfl, rfl⟩
theorem mat_ok (a b : Int) : spec_MatchingNumber a b = some (impl_MatchingNumber a b) := by
  unfold impl_MatchingNumber spec_MatchingNumber impl_areThousand
  rw [in_eq, in_eq, specIn_eq, specIn_eq]
  simp only [letO]
  cases decide (1 ≤ a ∧ a ≤ 1000) <;> cases decide (1 ≤ b ∧ b ≤ 1000) <;> rfl

theorem bindK {α β : Type} {X : Option α} (v : α) {F : α → Option β} {r : Option β} (h : X = some v) (h2 : F v = r) : X.bind F = r := by subst h; exact h2
theorem bounds_pure (code : List UInt8) : laws_FnBounds 200000 code = some true := by
  classical
  obtain ⟨K, hK⟩ : ∃ K : Nat, K = 200000 := ⟨_, rfl⟩
  rw [← hK]
  have hk : 5000 ≤ K := by omega
  unfold laws_FnBounds
  by_cases hb : laws_big code = true
  · rw [if_pos hb]
  have hc : code.length ≤ 4096 := by
    unfold laws_big at hb
    simp at hb; omega
  rw [if_neg hb]
  obtain ⟨a, b, d1⟩ := drawKn_ok hk code hc
  obtain ⟨kv, ke, kn1, kn2, kn3, kn4⟩ := kn_ok a b
  obtain ⟨sizes, d2, hsl⟩ := drawNb_ok hk code hc
  obtain ⟨bc, bd, d3⟩ := two_ok hk code hc 1 16
  obtain ⟨bv, bn1, bn2⟩ := bin_ok bc bd
  obtain ⟨m, hm, d4, d5⟩ := draw12_ok hk code hc
  obtain ⟨cv, ce, cn1, cn2, cn3⟩ := same_ok (cnt_all m hm)
  obtain ⟨tv, te, tn1, tn2, _⟩ := same_ok (tri_all' m hm)
  obtain ⟨se, sf, d6⟩ := two_ok hk code hc 1 1000
  obtain ⟨sv, st1, st2⟩ := star_ok se sf
  have mt := mat_ok se sf
  obtain ⟨x, y, d8⟩ := drawPd_ok hk code hc
  have nb1 := implNb_val hk sizes (by omega)
  have nb2 := specNb_val (k := K) (by omega) sizes (by omega)
  rw [← hK] at bn1 bn2 cn1 cn2 tn1 tn2
  unfold spec_DrawBinomialBound spec_DrawStarNumber spec_DrawMatchingNumber
  rw [d1, Option.bind_some]
  simp only
  rw [kn1, Option.bind_some, kn2, Option.bind_some]
  simp only [decide_true, Bool.not_true, Bool.false_eq_true, if_false, letO, Option.bind_some]
  rw [d2, Option.bind_some, nb1, Option.bind_some, nb2, Option.bind_some]
  simp only [decide_true, Bool.not_true, Bool.false_eq_true, if_false, letO, Option.bind_some]
  rw [d3, Option.bind_some, Option.bind_some]
  simp only
  rw [bn1, Option.bind_some, bn2, Option.bind_some]
  simp only [decide_true, Bool.not_true, Bool.false_eq_true, if_false, letO, Option.bind_some]
  rw [d4, Option.bind_some, cn1, Option.bind_some, cn2, Option.bind_some]
  simp only [decide_true, Bool.not_true, Bool.false_eq_true, if_false, letO, Option.bind_some]
  rw [d5, Option.bind_some, tn1, Option.bind_some, tn2, Option.bind_some]
  simp only [decide_true, Bool.not_true, Bool.false_eq_true, if_false, letO, Option.bind_some]
  rw [d6, Option.bind_some, Option.bind_some]
  simp only
  rw [st1, Option.bind_some, st2, Option.bind_some]
  simp only [decide_true, Bool.not_true, Bool.false_eq_true, if_false, letO, Option.bind_some]
  rw [mt, Option.bind_some]
  simp only [decide_true, Bool.not_true, Bool.false_eq_true, if_false, letO, Option.bind_some]
  rw [d8, Option.bind_some]
  simp only
  rw [pd_impl hk, Option.bind_some, pd_spec hk, Option.bind_some]
  have heq : (pdR x y).1.eqb (pdR x y).1 = true := (Col.eqb_iff _ _).2 rfl
  simp only [decide_true, Bool.not_true, Bool.false_eq_true, if_false, letO, Option.bind_some, heq]
  refine bindK (.inl ()) ?_ ?_
  · unfold pdR
    by_cases hxy : x.is ∧ y.is
    · rw [if_pos hxy]
      obtain ⟨hx, hy⟩ := hxy
      by_cases hpk : x.p * y.p ≤ 17 ∧ x.k + y.k ≤ 4
      · have hx1 := hx.2.1
        have hy1 := hy.2.1
        rw [if_pos hpk]
        simp only [decide_true, if_true]
        rw [cliques_val hk hx, Option.bind_some, cliques_val hk hy, Option.bind_some, cliques_val hk (prC_is hx hy hpk.1 hpk.2), Option.bind_some]
        simp only [decide_true, Bool.not_true, Bool.false_eq_true, if_false, Option.getD_some]
        have l1 : (mapL x.k.toNat fun c => (gw x c : Int)).length ≤ 4 := by rw [mapL_length]; omega
        have l2 : (mapL y.k.toNat fun c => (gw y c : Int)).length ≤ 4 := by rw [mapL_length]; omega
        rw [if_pos (by simp only [List.length_nil]; omega), if_pos (by simp only [List.nil_append]; omega), List.nil_append, numbers_pr hx hy hpk.1 hpk.2, like_refl K _ (by simp only [List.length_append]; omega) (by simp only [List.length_append]; omega)]
        simp
      · rw [if_neg hpk]; simp
    · rw [if_neg hxy]; simp
  simp only
  refine bindK (.inl ()) ?_ ?_
  · simp only [Bool.or_eq_true, Bool.and_eq_true, Bool.not_eq_true', decide_eq_false_iff_not, decide_eq_true_iff] at cn3
    by_cases e0 : ce = 0
    · by_cases e8 : (m : Int) ≤ 8
      · rcases cn3 with q | ⟨q1, q⟩
        · exact absurd e0 q
        · have hlt : cv < r2 16 m m := by
            rcases q with q | q
            · omega
            · exact q
          rw [decide_eq_true e0, if_pos rfl, decide_eq_true e8, if_pos rfl, nb_pair hk (by omega) (by omega), Option.bind_some]
          simp only [decide_true, Bool.not_true, Bool.false_eq_true, if_false]
          rw [decide_eq_false (by omega)]; rfl
      · rw [decide_eq_true e0, if_pos rfl, decide_eq_false e8]; rfl
    · rw [decide_eq_false e0]; rfl
  simp only
  refine bindK (.inl ()) ?_ ?_
  · by_cases h8 : (1 ≤ sizes.length ∧ sizes.length ≤ 4) ∧ ∀ z ∈ sizes, 1 ≤ z ∧ z ≤ 8
    · rw [if_pos h8]
      by_cases hl2 : sizes.length = 2
      · obtain ⟨u, v, rfl⟩ : ∃ u v, sizes = [u, v] := by
          match sizes, hl2 with
          | [u, v], _ => exact ⟨u, v, rfl⟩
        have hu := h8.2 u (by simp)
        have hv := h8.2 v (by simp)
        obtain ⟨p, rfl⟩ := nat_of (show 0 ≤ u by omega)
        obtain ⟨q, rfl⟩ := nat_of (show 0 ≤ v by omega)
        have e : nb8 (sorted [(p : Int), (q : Int)]) = r2 16 p q := nbv_r2 16 p q (by omega) (by omega) (by omega)
        have hs := two_small (s := [(p : Int), (q : Int)]) (pair_wfu (by omega) (by omega)) (by simp)
        have hs' : nbv [(p : Int), (q : Int)] = r2 16 p q := e
        rw [hs'] at hs
        obtain ⟨w, f, w1, w2, w3⟩ := same_ok (bin_all p (by omega) q (by omega) (by simp; omega))
        rw [← hK] at w1
        rw [decide_eq_true (show p ≤ 8 by omega), decide_eq_true (show q ≤ 8 by omega)] at w3
        simp only [Bool.and_self, Bool.not_true, Bool.false_or, Bool.and_eq_true, decide_eq_true_iff] at w3
        have hno : ¬ (1000000000 : Int) < r2 16 p q := by omega
        rw [e, if_neg hno]
        have g0 : ([(p : Int), (q : Int)] : List Int).getD (0 : Int).toNat 0 = p := rfl
        have g1 : ([(p : Int), (q : Int)] : List Int).getD (1 : Int).toNat 0 = q := rfl
        have gl : (([(p : Int), (q : Int)] : List Int).length : Int) = 2 := rfl
        simp only [decide_true, if_true, gl]
        rw [if_pos (by omega), if_pos (by omega), g0, g1, w1, Option.bind_some]
        simp only [w3.1, decide_true, Bool.not_true, Bool.false_eq_true, if_false]
        rw [decide_eq_false (by omega)]; rfl
      · have : ¬ ((sizes.length : Int) = 2) := by omega
        simp [this]
    · rw [if_neg h8]; simp
  simp only
  by_cases e0 : ke = 0
  · obtain ⟨p1, p2, p3⟩ := kn4 e0
    rw [decide_eq_true e0, Bool.not_true, if_neg (by simp)]
    by_cases h8 : 8 < a ∨ 8 < b
    · have : (if decide (8 < a) = true then true else decide (8 < b)) = true := by
        rcases h8 with h | h
        · rw [decide_eq_true h]; rfl
        · rw [decide_eq_true h]; split <;> rfl
      rw [this, if_pos rfl, Option.bind_some, decide_eq_true p1]
    · have : (if decide (8 < a) = true then true else decide (8 < b)) = false := by
        rw [decide_eq_false (by omega), if_neg (by simp), decide_eq_false (by omega)]
      have p4 := p3 (by omega)
      have hp := nb_pair hk (a := a.toNat) (b := b.toNat) (by omega) (by omega)
      rw [show ((a.toNat : Nat) : Int) = a by omega, show ((b.toNat : Nat) : Int) = b by omega] at hp
      rw [this, if_neg (by simp), Option.bind_some]
      simp only
      rw [hp, Option.bind_some]
      simp only [decide_true, if_true]
      rw [decide_eq_true p4]
  · rw [decide_eq_false e0, Bool.not_false, if_pos rfl, kn3 e0]; rfl
end Go.Proofs.YtghhnpdhehjlaaaGreat
