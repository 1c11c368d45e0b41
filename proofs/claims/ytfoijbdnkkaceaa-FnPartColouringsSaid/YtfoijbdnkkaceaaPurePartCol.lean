/- The plain law of FnPartColourings. No conditions beyond those that each lemma states. -/
import Derived.Test.YtfoijbdnkkaceaaPureSumB19
import Derived.Test.YtfoijbdnkkaceaaPureDraw19
set_option linter.unusedVariables false
set_option linter.unusedSimpArgs false
namespace Go.Proofs.Ytfoijbdnkkaceaa
open Go Go.RowKit Ab

/-! ### Draws -/
theorem at_ok (l : List Int) (kind y z : Int) (hl : l.length ≤ 1000) (h1 : 1 ≤ y) (h2 : y < z) (h3 : z ≤ l.length) (hk : 0 ≤ kind ∧ kind ≤ 2) : ∃ r, spec_l07At l kind y z = some r := by
  unfold spec_l07At
  have e1 : w64 (w64 (2 * y) - z) = 2 * y - z := by rw [w64_id (n := 2 * y) (by omega), w64_id (by omega)]
  have e2 : w64 (z - y) = z - y := w64_id (by omega)
  rw [e1, e2]
  simp only [letO]
  have hs : ∃ s : Int, (if decide (kind = 2) = true then 2 * y - z else z - y) = s ∧ s ≤ 3000 ∧ -3000 ≤ s := ⟨_, rfl, by split <;> omega, by split <;> omega⟩
  obtain ⟨s, hs, hs1, hs2⟩ := hs
  rw [hs]
  by_cases g1 : s < 1
  · exact ⟨0, by simp [g1]⟩
  · by_cases g2 : y < s
    · exact ⟨0, by simp [g1, g2]⟩
    · have i1 : 0 ≤ w64 (s - 1) ∧ w64 (s - 1) < (l.length : Int) := by rw [w64_id (by omega)]; omega
      have i2 : 0 ≤ w64 (y - 1) ∧ w64 (y - 1) < (l.length : Int) := by rw [w64_id (by omega)]; omega
      have i3 : 0 ≤ w64 (z - 1) ∧ w64 (z - 1) < (l.length : Int) := by rw [w64_id (by omega)]; omega
      simp only [g1, g2, decide_false, Bool.false_eq_true, if_false, if_pos i1, if_pos i2, if_pos i3]
      have fin : ∀ X : Option Bool, (∃ b, X = some b) → ∃ r, ((X.bind fun s17 => if s17 = true then (some (.inr 0) : Option (Sum Unit Int)) else some (.inl ())).bind fun os => (Sum.casesOn (motive := fun _ => Option Int) os (fun _ => some s) (fun rr => some rr))) = some r := by
        rintro X ⟨b, rfl⟩
        cases b
        · exact ⟨s, rfl⟩
        · exact ⟨0, rfl⟩
      have fin2 : ∀ X : Option Bool, (∃ b, X = some b) → ∃ b, X = some b := fun _ h => h
      generalize hX : (if decide (0 < kind) = true then _ else _ : Option Bool) = X
      have hb : ∃ b, X = some b := by
        rw [← hX]
        by_cases q0 : 0 < kind <;> by_cases q1 : s = y <;> by_cases q2 : l.getD (w64 (s - 1)).toNat 0 = l.getD (w64 (y - 1)).toNat 0 <;> simp only [q0, q1, q2, decide_true, decide_false, Bool.not_true, Bool.not_false, Bool.false_eq_true, if_false, if_true] <;> exact ⟨_, rfl⟩
      obtain ⟨b, rfl⟩ := hb
      cases b
      · exact ⟨s, rfl⟩
      · exact ⟨0, rfl⟩

theorem fault_l1_ok (l : List Int) (kind z : Int) (hl : l.length ≤ 1000) (h3 : z ≤ l.length) (hk : 0 ≤ kind ∧ kind ≤ 2) : ∀ (d : Nat) (y : Int) (k : Nat), (z - y).toNat = d → d < k → 1 ≤ y → ∃ r, spec_l07Fault_l1 l kind z k y = some r := by
  intro d
  induction d with
  | zero =>
    intro y k h1 h2 h4
    obtain ⟨k, rfl⟩ : ∃ q, k = q + 1 := ⟨k - 1, by omega⟩
    have : ¬ y < z := by omega
    exact ⟨.inl (), by rw [spec_l07Fault_l1, decide_eq_false this]; simp⟩
  | succ d ih =>
    intro y k h1 h2 h4
    obtain ⟨k, rfl⟩ : ∃ q, k = q + 1 := ⟨k - 1, by omega⟩
    have hlt : y < z := by omega
    obtain ⟨r, e⟩ := at_ok l kind y z hl h4 hlt h3 hk
    obtain ⟨r', e'⟩ := ih (y + 1) k (by omega) (by omega) (by omega)
    rw [spec_l07Fault_l1, decide_eq_true hlt, e, w64_id (by omega)]
    by_cases hr : 0 < r
    · exact ⟨.inr (.inr [r, y, z]), by simp only [if_true, Option.bind_some, hr, decide_true]⟩
    · exact ⟨r', by simp only [if_true, Option.bind_some, hr, decide_false, Bool.false_eq_true, if_false, e']⟩
theorem fault_ok {K : Nat} (hK : 5000 ≤ K) (l : List Int) (kind from_ : Int) (hl : l.length ≤ 1000) (hf : 1 ≤ from_) (hk : 0 ≤ kind ∧ kind ≤ 2) : ∃ r, spec_l07Fault K l kind from_ = some r := by
  unfold spec_l07Fault
  have loop : ∀ (d : Nat) (z : Int) (k : Nat), ((l.length : Int) + 1 - z).toNat = d → d < k → 1 ≤ z → ∃ r, spec_l07Fault_l0 K l kind k z = some r := by
    intro d
    induction d with
    | zero =>
      intro z k h1 h2 h4
      obtain ⟨k, rfl⟩ : ∃ q, k = q + 1 := ⟨k - 1, by omega⟩
      have : ¬ z ≤ (l.length : Int) := by omega
      exact ⟨.inl (), by rw [spec_l07Fault_l0, decide_eq_false this]; simp⟩
    | succ d ih =>
      intro z k h1 h2 h4
      obtain ⟨k, rfl⟩ : ∃ q, k = q + 1 := ⟨k - 1, by omega⟩
      have hle : z ≤ (l.length : Int) := by omega
      obtain ⟨r, e⟩ := fault_l1_ok l kind z hl hle hk (z - 1).toNat 1 K rfl (by omega) (by omega)
      obtain ⟨r', e'⟩ := ih (z + 1) k (by omega) (by omega) (by omega)
      rw [spec_l07Fault_l0, decide_eq_true hle, e, w64_id (by omega)]
      cases r with
      | inl u => exact ⟨r', by simp only [if_true, Option.bind_some, e']⟩
      | inr v => exact ⟨v, by simp only [if_true, Option.bind_some]⟩
  obtain ⟨r, e⟩ := loop ((l.length : Int) + 1 - from_).toNat from_ K rfl (by omega) hf
  rw [e]
  cases r with
  | inl u => exact ⟨[], rfl⟩
  | inr v => exact ⟨v, rfl⟩
theorem own_val (l : List Int) (hl : l.length ≤ 100000) : spec_l01Own l = some l := by
  unfold spec_l01Own
  rw [if_pos (by simp; omega)]; rfl

theorem next_some {K : Nat} (hK : 5000 ≤ K) (k : Int) (l : List Int) (kind : Int) (hk3 : 1 ≤ k ∧ k ≤ 3) (hl : l.length ≤ 900) (hk : 0 ≤ kind ∧ kind ≤ 2) : ∃ r, spec_l07Next K k l kind = some r ∧ r.length ≤ 3 := by
  unfold spec_l07Next
  have := loopI (f := fun k' c (s : List Int) => spec_l07Next_l0 K k l kind k' c s) k 0 (fun c s => c ≤ k ∧ (s.length : Int) ≤ c) (fun r => r.length ≤ 3) ?_ ?_ K 0 [] (by omega) (by omega) ⟨by omega, by simp⟩
  · obtain ⟨r, e, h⟩ := this
    exact ⟨r, by rw [e]; rfl, h⟩
  · intro k' c s h0 h1 ⟨_, q⟩
    left
    have hl1 : l.length + ([c]).length ≤ 1099511627776 := by simp; omega
    have hl2 : s.length + ([c]).length ≤ 1099511627776 := by simp; omega
    obtain ⟨r, e⟩ := fault_ok hK (l ++ [c]) kind (w64 ((l.length : Int) + 1)) (by simp; omega) (by rw [w64_id (by omega)]; omega) hk
    by_cases hr : (r.length : Int) = 0
    · refine ⟨s ++ [c], ?_, by omega, by simp; omega⟩
      show spec_l07Next_l0 K k l kind (k' + 1) c s = _
      rw [spec_l07Next_l0, own_val l (by omega)]
      simp only [h1, decide_true, if_true, Option.bind_some, if_pos hl1, e, hr, if_pos hl2]
      rw [w64_succ h0 h1 (by omega)]
    · refine ⟨s, ?_, by omega, by omega⟩
      show spec_l07Next_l0 K k l kind (k' + 1) c s = _
      rw [spec_l07Next_l0, own_val l (by omega)]
      simp only [h1, decide_true, if_true, Option.bind_some, if_pos hl1, e, hr, decide_false, Bool.false_eq_true, if_false]
      rw [w64_succ h0 h1 (by omega)]
  · intro k' c s h0 h1 ⟨q1, q2⟩
    refine ⟨s, ?_, by omega⟩
    show spec_l07Next_l0 K k l kind (k' + 1) c s = _
    rw [spec_l07Next_l0]
    have : ¬ c < k := by omega
    simp [this]

theorem draw07_ok {K : Nat} (hK : 5000 ≤ K) (s : Src) (most : Int) (h : okS s) (hm : 0 ≤ most ∧ most ≤ 100) : ∃ k l kind s', spec_l07Draw K s most = some (k, l, kind, s') ∧ okS s' ∧ (l.length : Int) ≤ most := by
  unfold spec_l07Draw
  obtain ⟨k, s1, e1, h1, hk⟩ := pick_ok s [1, 2, 2, 3, 3] h (by simp)
  have hk3 : 1 ≤ k ∧ k ≤ 3 := by simp at hk; omega
  obtain ⟨kind, s2, e2, h2, hkind, _⟩ := next_ok s1 3 h1
  have hkd := hkind (by omega)
  obtain ⟨n, s3, e3, h3, hn, _⟩ := next_ok s2 (w64 (most + 1)) h2
  rw [w64_id (by omega)] at hn e3
  have hn' := hn (by omega)
  have loop : ∀ (d : Nat) (f : Nat) (s : Src) (l : List Int), d < f → okS s → (l.length : Int) + d ≤ 200 → ∃ s' l', spec_l07Draw_l0 K (k, s1) (kind, s2) f (d : Int) s l = some (s', l') ∧ okS s' ∧ l'.length ≤ l.length + d := by
    intro d
    induction d with
    | zero =>
      intro f s l hf hs hl
      obtain ⟨f, rfl⟩ : ∃ q, f = q + 1 := ⟨f - 1, by omega⟩
      exact ⟨s, l, by rw [spec_l07Draw_l0]; simp, hs, by omega⟩
    | succ d ih =>
      intro f s l hf hs hl
      obtain ⟨f, rfl⟩ : ∃ q, f = q + 1 := ⟨f - 1, by omega⟩
      have hpos : (0 : Int) < ((d + 1 : Nat) : Int) := by omega
      obtain ⟨r, e, hr⟩ := next_some hK k l kind hk3 (by omega) (by omega)
      have hw : w64 (((d + 1 : Nat) : Int) - 1) = (d : Int) := by rw [w64_id (by omega)]; omega
      rw [spec_l07Draw_l0, decide_eq_true hpos, hw]
      simp only [if_true, e, Option.bind_some]
      have withB : ∀ (b : Bool) (t : Src), okS t → (b = false → r.length ≠ 0) → ∃ s' l', ((if b = true then (spec_l01Next t k).bind fun r13 => (if l.length + ([r13.1]).length ≤ 1099511627776 then some (r13.2, (l ++ ([r13.1]))) else none) else (spec_l01Next t (r.length : Int)).bind fun r15 => (if 0 ≤ r15.1 ∧ r15.1 < (r.length : Int) then (if l.length + ([(r.getD r15.1.toNat 0)]).length ≤ 1099511627776 then some (r15.2, (l ++ ([(r.getD r15.1.toNat 0)]))) else none) else none)).bind fun s18 => spec_l07Draw_l0 K (k, s1) (kind, s2) f (d : Int) s18.1 s18.2) = some (s', l') ∧ okS s' ∧ l'.length ≤ l.length + (d + 1) := by
        intro b t ht hb
        cases b with
        | true =>
          obtain ⟨v, t', e5, h5, _, _⟩ := next_ok t k ht
          have hl1 : l.length + ([v]).length ≤ 1099511627776 := by simp; omega
          obtain ⟨s', l', e6, h6, h7⟩ := ih f t' (l ++ [v]) (by omega) h5 (by simp; omega)
          refine ⟨s', l', by simp only [if_true, e5, Option.bind_some, if_pos hl1, e6], h6, ?_⟩
          simp at h7; omega
        | false =>
          obtain ⟨v, t', e5, h5, hv, _⟩ := next_ok t (r.length : Int) ht
          have := hb rfl
          have hv' := hv (by omega)
          have hl1 : l.length + ([r.getD v.toNat 0]).length ≤ 1099511627776 := by simp; omega
          obtain ⟨s', l', e6, h6, h7⟩ := ih f t' (l ++ [r.getD v.toNat 0]) (by omega) h5 (by simp; omega)
          refine ⟨s', l', by simp only [Bool.false_eq_true, if_false, e5, Option.bind_some, if_pos hv', if_pos hl1, e6], h6, ?_⟩
          simp at h7; omega
      by_cases hz : (r.length : Int) = 0
      · simp only [hz, decide_true, if_true, Option.bind_some]
        exact withB true s hs (fun h => by cases h)
      · obtain ⟨v, t, e4, h4, _, _⟩ := next_ok s 20 hs
        simp only [hz, decide_false, Bool.false_eq_true, if_false, e4, Option.bind_some]
        exact withB (decide (v = 0)) t h4 (fun _ => by omega)
  obtain ⟨n', hn2⟩ := nat_of hn'.1
  obtain ⟨s4, l, e4, h4, h5⟩ := loop n' K s3 [] (by omega) h3 (by simp; omega)
  rw [e1]
  simp only [Option.bind_some, e2, w64_id (n := most + 1) (by omega), e3, hn2, e4]
  exact ⟨k, l, kind, s4, rfl, h4, by simp at h5; omega⟩

theorem with07_ok {K : Nat} (hK : 5000 ≤ K) (c : List UInt8) (hc : c.length ≤ 4096) : ∃ k l kind, spec_l07With K c = some (k, l, kind) ∧ l.length ≤ 100 := by
  unfold spec_l07With
  obtain ⟨s, e, hs⟩ := from_ok hK c hc
  obtain ⟨m, s1, e1, h1, hm⟩ := pick_ok s [4, 8, 13, 22, 40] hs (by simp)
  have hm' : 0 ≤ m ∧ m ≤ 40 := by simp at hm; omega
  obtain ⟨k, l, kind, s2, e2, h2, hl⟩ := draw07_ok hK s1 m h1 (by omega)
  obtain ⟨v, s3, e3, h3, _, _⟩ := next_ok s2 24 h2
  rw [e]
  simp only [Option.bind_some, e1, e2, e3]
  by_cases v0 : v = 0
  · obtain ⟨a, s4, e4, _⟩ := pick_ok s3 [0, 4, (-1)] h3 (by simp)
    exact ⟨a, l, kind, by simp only [v0, decide_true, if_true, e4, Option.bind_some], by omega⟩
  · by_cases v1 : v = 1
    · obtain ⟨a, s4, e4, _⟩ := pick_ok s3 [(-1), 3] h3 (by simp)
      exact ⟨k, l, a, by simp only [v0, v1, show ¬ ((1 : Int) = 0) by decide, decide_true, decide_false, Bool.false_eq_true, if_false, if_true, e4, Option.bind_some], by omega⟩
    · by_cases v2 : v = 2
      · obtain ⟨a, s4, e4, _⟩ := pick_ok s3 [(-1), k] h3 (by simp)
        have hl1 : l.length + ([a]).length ≤ 1099511627776 := by simp; omega
        exact ⟨k, l ++ [a], kind, by simp only [v2, show ¬ ((2 : Int) = 0) by decide, show ¬ ((2 : Int) = 1) by decide, decide_true, decide_false, Bool.false_eq_true, if_false, if_true, e4, Option.bind_some, if_pos hl1], by simp; omega⟩
      · by_cases v3 : v = 3
        · have loop : ∀ (d : Nat) (f : Nat) (l' : List Int), 41 - l'.length = d → d < f → l'.length ≤ 100 → ∃ l2, spec_l07With_l0 (k, l, kind, s2) f l' = some (k, kind, l2) ∧ l2.length ≤ 100 := by
            intro d
            induction d with
            | zero =>
              intro f l' h1 h2 h3
              obtain ⟨f, rfl⟩ : ∃ q, f = q + 1 := ⟨f - 1, by omega⟩
              have : ¬ (l'.length : Int) ≤ 40 := by omega
              exact ⟨l', by rw [spec_l07With_l0, decide_eq_false this]; simp, h3⟩
            | succ d ih =>
              intro f l' h1 h2 h3
              obtain ⟨f, rfl⟩ : ∃ q, f = q + 1 := ⟨f - 1, by omega⟩
              have hle : (l'.length : Int) ≤ 40 := by omega
              have hl1 : l'.length + ([0] : List Nat).length ≤ 1099511627776 := by simp; omega
              obtain ⟨l2, e, h⟩ := ih f (l' ++ [0]) (by simp; omega) (by omega) (by simp; omega)
              exact ⟨l2, by rw [spec_l07With_l0, decide_eq_true hle, if_pos rfl, if_pos hl1, e], h⟩
          obtain ⟨l2, e4, h4⟩ := loop (41 - l.length) K l rfl (by omega) (by omega)
          exact ⟨k, l2, kind, by simp only [v3, show ¬ ((3 : Int) = 0) by decide, show ¬ ((3 : Int) = 1) by decide, show ¬ ((3 : Int) = 2) by decide, decide_true, decide_false, Bool.false_eq_true, if_false, if_true, e4, Option.bind_some], h4⟩
        · exact ⟨k, l, kind, by simp only [v0, v1, v2, v3, decide_false, Bool.false_eq_true, if_false, Option.bind_some], by omega⟩

theorem drawCol_ok {K : Nat} (hK : 5000 ≤ K) (c : List UInt8) (hc : c.length ≤ 4096) : ∃ k l, spec_DrawColouringOfPart K c = some (k, l) ∧ l.length ≤ 100 := by
  unfold spec_DrawColouringOfPart
  obtain ⟨k, l, kind, e, hl⟩ := with07_ok hK c hc
  obtain ⟨s, e1, hs⟩ := from_ok hK c hc
  rw [e]
  simp only [Option.bind_some]
  by_cases h : (16 : Int) < (l.length : Int)
  · obtain ⟨v, s2, e2, h2, _, _⟩ := next_ok s 4 hs
    rw [decide_eq_true h]
    simp only [if_true, e1, e2, Option.bind_some]
    by_cases hv : 0 < v
    · exact ⟨k, _, by rw [decide_eq_true hv, if_pos rfl, if_pos (by omega)]; rfl, by rw [List.length_take, List.length_drop]; omega⟩
    · exact ⟨k, l, by rw [decide_eq_false hv]; rfl, hl⟩
  · exact ⟨k, l, by rw [decide_eq_false h]; rfl, hl⟩

theorem drawPart_ok {K : Nat} (hK : 5000 ≤ K) (c : List UInt8) (hc : c.length ≤ 4096) : ∃ x, spec_DrawPartOfColouring K c = some x := by
  unfold spec_DrawPartOfColouring
  obtain ⟨s, e, hs⟩ := from_ok hK c hc
  obtain ⟨v, s1, e1, h1, _, _⟩ := next_ok s 3 hs
  rw [e]
  simp only [Option.bind_some, e1]
  by_cases hv : v = 0
  · obtain ⟨x, s2, e2, _⟩ := spoil_ok hK s1 h1
    exact ⟨x, by simp only [hv, decide_true, if_true, e2, Option.bind_some]⟩
  · obtain ⟨k, l, kind, s2, e2, h2, hl⟩ := draw07_ok hK s1 16 h1 (by omega)
    obtain ⟨y, e3, _⟩ := specCol hK k l (by omega)
    obtain ⟨z, s3, e4, _⟩ := bad_ok s2 y h2
    exact ⟨z, by simp only [hv, decide_false, Bool.false_eq_true, if_false, e2, Option.bind_some, e3, e4]⟩

/-! ### The law -/
theorem part_cc {x : Col} {k : Int} {l : List Int} (hP : isP k l) (hl : l.length ≤ 16) (hm : Made x ((l.length : Int) + 1) k (prG l)) (a b : Nat) (hab : a < b) (hb : b < l.length + 1) : x.cc a b = l.getD (b - a - 1) 0 := by
  have e : x.cc a b = ((x.e.get (eN a b)).toNat : Int) := by unfold Col.cc; simp
  rw [e, hm.e a b hab (by omega)]
  unfold prG
  have := hP.2.2 _ (gDm (show b - a - 1 < l.length by omega))
  have h3 := hP.1
  generalize l.getD (b - a - 1) 0 = v at this
  have : v = 0 ∨ v = 1 ∨ v = 2 := by omega
  rcases this with rfl | rfl | rfl <;> rfl

theorem made_is {x : Col} {k : Int} {l : List Int} (hP : isP k l) (hl : l.length ≤ 16) (hm : Made x ((l.length : Int) + 1) k (prG l)) : x.is := by
  have key : ∀ n : Nat, n ≤ 17 → 1 ≤ n → w64 ((w64 ((n : Int) * (w64 ((n : Int) - 1)))).tdiv 2) = (tri n : Nat) := by decide +kernel
  have hE : tE x = (tri (l.length + 1) : Nat) := by
    unfold tE
    rw [hm.p]
    exact key (l.length + 1) (by omega) (by omega)
  have h1 := hP.1
  refine ⟨by rw [hm.p]; omega, by rw [hm.k]; omega, fun j h0 h136 => ⟨fun hj => ?_, fun hj => ?_⟩⟩
  · obtain ⟨b, hb, a, hab, e⟩ := eN_surj (n := l.length + 1) (e := j.toNat) (by omega) (by omega)
    have := part_cc hP hl hm a b hab hb
    have h2 := hP.2.2 _ (gDm (show b - a - 1 < l.length by omega))
    unfold Col.get
    rw [e, hm.k]
    have e2 : x.cc a b = ((x.e.get (eN a b)).toNat : Int) := by unfold Col.cc; simp
    rw [← e2, this]
    omega
  · unfold Col.get
    rw [hm.z j.toNat (by rw [show ((l.length : Int) + 1).toNat = l.length + 1 by omega]; omega) (by omega)]
    rfl

theorem part_back {x : Col} {k : Int} {l : List Int} (hP : isP k l) (hl : l.length ≤ 16) (hm : Made x ((l.length : Int) + 1) k (prG l)) : partL x = l := by
  have hp : x.p.toNat = l.length + 1 := by rw [hm.p]; omega
  apply List.ext_getElem (by rw [partL_length, hp]; omega)
  intro i h1 h2
  rw [← gD h1, ← gD h2, partL_get x i (by omega)]
  have := part_cc hP hl hm 0 (i + 1) (by omega) (by omega)
  rw [show (((i + 1 : Nat) : Int)) = (i : Int) + 1 by omega, show (((0 : Nat) : Int)) = 0 from rfl] at this
  rw [this]
  congr 1

theorem threes (k : Nat) (r : Int × List Int) (hk : 0 ≤ r.1 ∧ r.1 ≤ 10) (K : Nat) (hK : 5000 ≤ K) : laws_FnPartColourings_l0 r K 0 [] = some (List.replicate r.1.toNat 3) := by
  have := loopI (f := fun k' c (s : List Int) => laws_FnPartColourings_l0 r k' c s) r.1 0 (fun c s => c ≤ r.1 ∧ s = List.replicate c.toNat 3) (fun q => q = List.replicate r.1.toNat 3) ?_ ?_ K 0 [] (by omega) (by omega) ⟨by omega, rfl⟩
  · obtain ⟨q, e, rfl⟩ := this
    exact e
  · intro k' c s h0 h1 ⟨_, q⟩
    left
    have hl : s.length + ([3] : List Nat).length ≤ 1099511627776 := by rw [q]; simp; omega
    refine ⟨s ++ [3], ?_, by omega, ?_⟩
    · show laws_FnPartColourings_l0 r (k' + 1) c s = _
      rw [laws_FnPartColourings_l0, decide_eq_true h1, if_pos rfl, if_pos hl, w64_succ h0 h1 (by omega)]
    · rw [show (c + 1).toNat = c.toNat + 1 by omega, List.replicate_succ', q]
  · intro k' c s h0 h1 ⟨q1, q2⟩
    have : c = r.1 := by omega
    subst this
    refine ⟨s, ?_, q2⟩
    show laws_FnPartColourings_l0 r (k' + 1) r.1 s = _
    rw [laws_FnPartColourings_l0]; simp

theorem partColourings_pure (c : List UInt8) : laws_FnPartColourings 6000 c = some true := by
  classical
  have hk : 5000 ≤ 6000 := by decide
  generalize 6000 = K at hk
  unfold laws_FnPartColourings
  by_cases hb : laws_big c = true
  · rw [if_pos hb]
  have hc : c.length ≤ 4096 := by
    unfold laws_big at hb
    simp at hb; omega
  rw [if_neg hb]
  obtain ⟨k, l, d1, hl1⟩ := drawCol_ok hk c hc
  obtain ⟨y, d2⟩ := drawPart_ok hk c hc
  obtain ⟨k2, l2, kind2, d3, hl3⟩ := with07_ok hk c hc
  have d3' : spec_DrawReflectPart K c = some (k2, l2) := by unfold spec_DrawReflectPart; rw [d3]; rfl
  have d4 : ∃ v, spec_DrawClassOfColour K c = some (k2, l2, v) := by
    unfold spec_DrawClassOfColour
    obtain ⟨s, e, hs⟩ := from_ok hk c hc
    obtain ⟨v, s2, e2, _⟩ := near_ok s 2 hs
    exact ⟨v, by rw [d3]; simp only [Option.bind_some, e, e2]⟩
  obtain ⟨v, d4⟩ := d4
  obtain ⟨rr, re, r1, r2, r3⟩ := reflect_val hk k2 l2 (by omega)
  obtain ⟨cr, ce, cl1, cl2, cl3⟩ := class_val hk k2 l2 v (by omega)
  have lk1 := like_refl K rr (by omega) (by omega)
  have lk2 := like_refl K (cr.getD []) (by omega) (by omega)
  have key1 : ∀ (X : Option (Sum Unit Bool)) (n : Int), (n = 0 → X = some (.inl ())) → (if decide (n = 0) = true then X else some (.inl ())) = some (.inl ()) := fun X n hX => by
    by_cases hz : n = 0
    · rw [decide_eq_true hz, if_pos rfl, hX hz]
    · rw [decide_eq_false hz, if_neg (by simp)]
  -- the part of a colouring
  have hpart : ∃ q e, impl_PartOfColouring K y = some (q, e) ∧ spec_PartOfColouring K y = some (q.getD [], e) ∧ (q.getD []).length ≤ 100 ∧ (e ≠ 0 ∨ (e = 0 ∧ impl_ColouringOfPart K y.k (q.getD []) = some (y, 0))) := by
    rcases partOf_val hk y with ⟨e, he, h1, h2, _⟩ | ⟨h1, h2, h3, h4, h5⟩
    · exact ⟨none, e, h1, h2, by simp, .inl he⟩
    · have hlen := partL_length y
      have hp := h1.1
      refine ⟨_, 0, h4, h5, by simp only [Option.getD_some]; omega, .inr ⟨rfl, ?_⟩⟩
      simp only [Option.getD_some]
      rcases colOfPart_val hk y.k (partL y) (by omega) with ⟨hno, _, _⟩ | ⟨_, _, z, e1, _, e2, _⟩
      · exfalso
        apply hno
        refine ⟨⟨⟨h1.2.1.1, h2⟩, by omega, fun z hz => ?_⟩, by omega⟩
        obtain ⟨i, hi, rfl⟩ := List.getElem_of_mem hz
        rw [← gD hi, partL_get y i (by omega)]
        have key : ∀ n : Nat, n ≤ 17 → 1 ≤ n → w64 ((w64 ((n : Int) * (w64 ((n : Int) - 1)))).tdiv 2) = (tri n : Nat) := by decide +kernel
        obtain ⟨n, hn⟩ := nat_of (show 0 ≤ y.p by omega)
        have hE : tE y = (tri n : Nat) := by
          unfold tE
          rw [hn]
          exact key n (by omega) (by omega)
        have h136 := eN_136 (i := 0) (j := i + 1) (by omega) (by omega) (by omega)
        have hlt := eN_lt (i := 0) (j := i + 1) (n := n) (by omega) (by omega) (by omega)
        have hok := (h1.2.2 (eN 0 (i + 1) : Nat) (by omega) (by omega)).1 (by rw [hE]; omega)
        have e : y.cc 0 ((i : Int) + 1) = ((y.get (eN 0 (i + 1))).toNat : Int) := by
          unfold Col.cc Col.get
          rw [show ((i : Int) + 1).toNat = i + 1 by omega]; rfl
        simp only [Int.toNat_natCast] at hok
        omega
      · rw [e2] at h3
        cases h3
        exact e1
  obtain ⟨q, qe, p1, p2, p3, p4⟩ := hpart
  have lk3 := like_refl K (q.getD []) (by omega) (by omega)
  -- the colouring of a part
  have hcol : ∃ x e, impl_ColouringOfPart K k l = some (x, e) ∧ spec_ColouringOfPart K k l = some (x, e) ∧ (e ≠ 0 ∨ (e = 0 ∧ isP k l ∧ ∃ b, impl_PartOfColouring K x = some (some l, 0) ∧ impl_IsFree K k l 0 = some (b, 0) ∧ laws_FnPartColourings_l0 (k, l) K 0 [] = some (List.replicate k.toNat 3) ∧ impl_AvoidsSizes K x (List.replicate k.toNat 3) = some (b, 0))) := by
    rcases colOfPart_val hk k l (by omega) with ⟨_, h1, h2⟩ | ⟨hP, hl16, z, h1, h2, h3, hm⟩
    · exact ⟨_, 2, h1, h2, .inl (by decide)⟩
    · have hk3 := hP.1
      have his := made_is hP hl16 hm
      refine ⟨z, 0, h1, h2, .inr ⟨rfl, hP, decide (freeP l), ?_, isFree_val hk k l hP, threes 0 (k, l) (by simp only; omega) K hk, ?_⟩⟩
      · rcases partOf_val hk z with ⟨e, _, _, _, hno⟩ | ⟨_, _, _, h4, _⟩
        · exfalso
          apply hno
          refine ⟨his, by rw [hm.k]; omega, ?_⟩
          rw [part_back hP hl16 hm, hm.k]
          exact h3
        · rw [part_back hP hl16 hm] at h4
          exact h4
      · have hav := implAvoids_val hk z (List.replicate k.toNat 3) (by simp; omega)
        rw [hav.2.2 his ⟨by simp; rw [hm.k]; omega, fun w hw => by rw [List.mem_replicate] at hw; omega⟩]
        congr 2
        rw [decide_eq_decide, free_avoids hP hl16 hm]
        unfold avoidsP
        have hg : ∀ cc : Nat, cc < k.toNat → (List.replicate k.toNat (3 : Int)).getD cc 0 = 3 := fun cc hcc => by
          simp only [List.getD, List.getElem?_replicate]
          rw [if_pos hcc]; rfl
        constructor
        · intro h cc hcc
          have := h cc (by rw [List.length_replicate]; omega)
          rw [hg cc (by omega)] at this
          exact this
        · intro h cc hcc
          rw [List.length_replicate] at hcc
          rw [hg cc hcc]
          exact h cc (by omega)
  obtain ⟨x, e, c1, c2, c3⟩ := hcol
  have hxx : x.eqb x = true := (Col.eqb_iff x x).2 rfl
  have hyy : y.eqb y = true := (Col.eqb_iff y y).2 rfl
  have lk4 := like_refl K l (by omega) (by omega)
  rw [d1]
  simp only [Option.bind_some, c1, c2, decide_true, Bool.not_true, Bool.false_eq_true, if_false, hxx, letO]
  rw [key1 _ e (fun hz => by
    rcases c3 with h | ⟨_, hP, b, g1, g2, g3, g4⟩
    · exact absurd hz h
    · rw [g1, g2, g3]
      simp only [Option.bind_some, g4, decide_true, Bool.not_true, Bool.false_eq_true, if_false, Option.getD_some, lk4, BEq.rfl])]
  simp only [Option.bind_some, d2, p1, p2, d3', r1, r2, d4, cl1, cl2, decide_true, Bool.not_true, Bool.false_eq_true, if_false, lk1, lk2, lk3]
  rcases p4 with h | ⟨h, h'⟩
  · simp [h]
  · rw [h, h']
    simp [hyy]
end Go.Proofs.Ytfoijbdnkkaceaa
