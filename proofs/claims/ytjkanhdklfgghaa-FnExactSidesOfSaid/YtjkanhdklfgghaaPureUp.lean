/- The plain law of FnExactUpLengths: the program's answer is the reference's. No conditions beyond those that each lemma states. -/
import Derived.Test.YtjkanhdklfgghaaPureLesser
import Derived.Test.YtjkanhdklfgghaaPureMark
set_option linter.unusedVariables false
set_option linter.unusedSimpArgs false
namespace Go.Proofs.Ytjkanhdklfgghaa
open Go Go.RowKit Ab

theorem getD_app {α : Type} (l m : List α) (d : α) (i : Nat) (h : i < l.length) : (l ++ m).getD i d = l.getD i d := by
  simp only [List.getD]; rw [List.getElem?_append_left h]
theorem getD_app' {α : Type} (l m : List α) (d : α) (i : Nat) (h : l.length ≤ i) : (l ++ m).getD i d = m.getD (i - l.length) d := by
  simp only [List.getD]; rw [List.getElem?_append_right h]

/-- The most points of a path that goes up and ends with a point, behind some of the points before it. -/
def ownUp (x : Col) (c : Int) (l : List Int) (j : Nat) : Nat → Int
  | 0 => 1
  | i + 1 => if x.cc i j = c then (if ownUp x c l j i < l.getD i 0 + 1 then l.getD i 0 + 1 else ownUp x c l j i) else ownUp x c l j i
def upL (x : Col) (c : Int) : Nat → List Int
  | 0 => []
  | j + 1 => upL x c j ++ [ownUp x c (upL x c j) j j]
theorem upL_length (x : Col) (c : Int) (j : Nat) : (upL x c j).length = j := by
  induction j with
  | zero => rfl
  | succ j ih => simp [upL, ih]
theorem ownUp_range (x : Col) (c : Int) (l : List Int) (j : Nat) (b : Int) (hb : 1 ≤ b) (h : ∀ i, i < j → 0 ≤ l.getD i 0 ∧ l.getD i 0 < b) : ∀ i, i ≤ j → 1 ≤ ownUp x c l j i ∧ ownUp x c l j i ≤ b := by
  intro i
  induction i with
  | zero => intro _; exact ⟨by simp [ownUp], by simpa [ownUp] using hb⟩
  | succ i ih =>
    intro hi
    have h1 := ih (by omega)
    have h2 := h i (by omega)
    unfold ownUp
    split
    · split <;> omega
    · exact h1
theorem upL_range (x : Col) (c : Int) (j : Nat) : ∀ i, i < j → 1 ≤ (upL x c j).getD i 0 ∧ (upL x c j).getD i 0 ≤ j := by
  induction j with
  | zero => intro i h; omega
  | succ j ih =>
    intro i hi
    unfold upL
    by_cases e : i < j
    · rw [getD_app _ _ _ _ (by rw [upL_length]; exact e)]
      have := ih i e
      omega
    · have : i = j := by omega
      subst this
      have h := ownUp_range x c (upL x c i) i (i + 1) (by omega) (fun t ht => by have := ih t ht; omega) i (Nat.le_refl _)
      rw [getD_app' _ _ _ _ (by rw [upL_length]; omega), upL_length]
      simp; omega

theorem specUp_l1 (x : Col) (hp : x.p ≤ 17) (c : Int) (j : Nat) (hj : (j : Int) < x.p) (k : Nat) (hk : 18 ≤ k) : spec_UpLengths_l1 x c j (upL x c j) k 1 0 = some (ownUp x c (upL x c j) j j) := by
  have := loopI (f := fun k i (s : Int) => spec_UpLengths_l1 x c j (upL x c j) k s i) (j : Int) 0 (fun i s => s = ownUp x c (upL x c j) j i.toNat ∧ i ≤ j) (fun r => r = ownUp x c (upL x c j) j j) ?_ ?_ k 0 1 (by omega) (by omega) ⟨rfl, by omega⟩
  · obtain ⟨r, e, rfl⟩ := this; exact e
  · intro k i s h0 h1 ⟨q, _⟩
    left
    obtain ⟨m, rfl⟩ := nat_of h0
    refine ⟨_, ?_, rfl, by omega⟩
    show spec_UpLengths_l1 x c j (upL x c j) (k + 1) s m = _
    have hr := upL_range x c j m (by omega)
    rw [spec_UpLengths_l1, w64_succ h0 h1 (by omega), specAt_eq x m j h0 h1 (by omega) (by omega)]
    have hm : m < j := by omega
    have e : ((m : Int) + 1).toNat = m + 1 := by omega
    rw [w64_id (show -9223372036854775808 ≤ (upL x c j).getD (m : Int).toNat 0 + 1 ∧ (upL x c j).getD (m : Int).toNat 0 + 1 < 9223372036854775808 by simp only [Int.toNat_natCast]; omega), e, upL_length]
    simp only [Int.toNat_natCast] at q ⊢
    simp only [h1, h0, decide_true, if_true, and_self, Option.bind_some, q]
    by_cases hc : x.cc m j = c
    · simp only [hc, decide_true, if_true, Option.bind_some, ownUp]
    · simp only [hc, decide_false, Bool.false_eq_true, if_false, Option.bind_some, ownUp]
  · intro k i s h0 h1 ⟨q, q2⟩
    have : i = j := by omega
    subst this
    refine ⟨_, ?_, rfl⟩
    show spec_UpLengths_l1 x c j (upL x c j) (k + 1) s j = _
    rw [spec_UpLengths_l1]
    simp at q
    simp [q]

theorem specUp_l0 (x : Col) (hp : 1 ≤ x.p ∧ x.p ≤ 17) (c : Int) (k : Nat) (hk : 20 ≤ k) : spec_UpLengths_l0 k x c k 0 [] = some (upL x c x.p.toNat) := by
  have := loopI (f := fun k' i (s : List Int) => spec_UpLengths_l0 k x c k' i s) x.p 0 (fun i s => s = upL x c i.toNat ∧ i ≤ x.p) (fun r => r = upL x c x.p.toNat) ?_ ?_ k 0 [] (by omega) (by omega) ⟨rfl, by omega⟩
  · obtain ⟨r, e, rfl⟩ := this; exact e
  · intro k' i s h0 h1 ⟨q, _⟩
    left
    obtain ⟨j, rfl⟩ := nat_of h0
    simp at q
    subst q
    refine ⟨upL x c (j + 1), ?_, by simp [show ((j : Int) + 1).toNat = j + 1 by omega], by omega⟩
    show spec_UpLengths_l0 k x c (k' + 1) j (upL x c j) = _
    rw [spec_UpLengths_l0, w64_succ h0 h1 (by omega), specUp_l1 x hp.2 c j h1 k (by omega)]
    simp only [h1, decide_true, if_true, Option.bind_some, upL_length, List.length_singleton]
    rw [if_pos (by omega)]
    rfl
  · intro k' i s h0 h1 ⟨q, q2⟩
    have : i = x.p := by omega
    subst this
    refine ⟨_, ?_, q⟩
    show spec_UpLengths_l0 k x c (k' + 1) x.p s = _
    rw [spec_UpLengths_l0]; simp

/-- The program's list while it works: what is done, the point's own number, zeros. -/
def upS (x : Col) (c : Int) (n j : Nat) (v : Int) : List Int := upL x c j ++ (v :: List.replicate (n - j - 1) 0)
theorem upS_length (x : Col) (c : Int) (n j : Nat) (v : Int) (h : j < n) : (upS x c n j v).length = n := by simp [upS, upL_length]; omega
theorem upS_self (x : Col) (c : Int) (n j : Nat) (v : Int) : (upS x c n j v).getD j 0 = v := by
  unfold upS; rw [getD_app' _ _ _ _ (by rw [upL_length]; omega), upL_length]; simp
theorem upS_low (x : Col) (c : Int) (n j i : Nat) (v : Int) (h : i < j) : (upS x c n j v).getD i 0 = (upL x c j).getD i 0 := by
  unfold upS; rw [getD_app _ _ _ _ (by rw [upL_length]; exact h)]
theorem upS_set (x : Col) (c : Int) (n j : Nat) (v u : Int) : (upS x c n j v).set j u = upS x c n j u := by
  unfold upS; rw [List.set_append_right _ _ (by rw [upL_length]; omega), upL_length]; simp
theorem upS_next (x : Col) (c : Int) (n j : Nat) (h : j + 1 < n) : upS x c n j (ownUp x c (upL x c j) j j) = upS x c n (j + 1) 0 := by
  unfold upS
  rw [show n - j - 1 = (n - (j + 1) - 1) + 1 by omega, List.replicate_succ]
  simp [upL]

theorem implUp_l1 (x : Col) (hp : x.p ≤ 17) (c : Int) (j : Nat) (hj : (j : Int) < x.p) (k : Nat) (hk : 18 ≤ k) : impl_Colouring_ups_l1 x c j k 0 (upS x c x.p.toNat j 1) = some (upS x c x.p.toNat j (ownUp x c (upL x c j) j j)) := by
  have := loopI (f := fun k i (s : List Int) => impl_Colouring_ups_l1 x c j k i s) (j : Int) 0 (fun i s => s = upS x c x.p.toNat j (ownUp x c (upL x c j) j i.toNat) ∧ i ≤ j) (fun r => r = upS x c x.p.toNat j (ownUp x c (upL x c j) j j)) ?_ ?_ k 0 (upS x c x.p.toNat j 1) (by omega) (by omega) ⟨rfl, by omega⟩
  · obtain ⟨r, e, rfl⟩ := this; exact e
  · intro k i s h0 h1 ⟨q, _⟩
    left
    obtain ⟨m, rfl⟩ := nat_of h0
    simp only [Int.toNat_natCast] at q
    subst q
    have hm : m < j := by omega
    refine ⟨upS x c x.p.toNat j (ownUp x c (upL x c j) j (m + 1)), ?_, by rw [show ((m : Int) + 1).toNat = m + 1 by omega], by omega⟩
    show impl_Colouring_ups_l1 x c j (k + 1) m _ = _
    have hr := upL_range x c j m hm
    rw [impl_Colouring_ups_l1, w64_succ h0 h1 (by omega), implAt_eq x m j h0 h1 (by omega) (by omega)]
    simp only [Int.toNat_natCast, upS_length x c x.p.toNat j _ (show j < x.p.toNat by omega), upS_self, upS_low x c x.p.toNat j m _ hm, upS_set]
    rw [w64_id (by omega)]
    simp only [h1, decide_true, if_true, Option.bind_some]
    by_cases hc : x.cc m j = c
    · simp only [hc, decide_true, if_true, ownUp]
      rw [if_pos (by omega), if_pos (by omega), if_pos (by omega)]
      rfl
    · simp only [hc, decide_false, Bool.false_eq_true, if_false, Option.bind_some, ownUp]
  · intro k i s h0 h1 ⟨q, q2⟩
    have : i = j := by omega
    subst this
    refine ⟨_, ?_, rfl⟩
    show impl_Colouring_ups_l1 x c j (k + 1) j s = _
    rw [impl_Colouring_ups_l1]
    simp at q
    simp [q]

theorem implUp_l0 (x : Col) (hp : 1 ≤ x.p ∧ x.p ≤ 17) (c : Int) (k : Nat) (hk : 20 ≤ k) : impl_Colouring_ups_l0 k x c k 0 (List.replicate x.p.toNat 0) = some (upL x c x.p.toNat) := by
  have := loopI (f := fun k' i (s : List Int) => impl_Colouring_ups_l0 k x c k' i s) x.p 0 (fun i s => (i < x.p → s = upS x c x.p.toNat i.toNat 0) ∧ (i = x.p → s = upL x c x.p.toNat) ∧ i ≤ x.p) (fun r => r = upL x c x.p.toNat) ?_ ?_ k 0 (List.replicate x.p.toNat 0) (by omega) (by omega)
    ⟨fun _ => by
      unfold upS
      obtain ⟨n, hn⟩ : ∃ n, x.p.toNat = n + 1 := ⟨x.p.toNat - 1, by omega⟩
      rw [hn]; simp [upL, List.replicate_succ], fun h => by omega, by omega⟩
  · obtain ⟨r, e, rfl⟩ := this; exact e
  · intro k' i s h0 h1 ⟨q, _, _⟩
    left
    obtain ⟨j, rfl⟩ := nat_of h0
    have q := q h1
    simp only [Int.toNat_natCast] at q
    subst q
    refine ⟨upS x c x.p.toNat j (ownUp x c (upL x c j) j j), ?_, fun h => ?_, fun h => ?_, by omega⟩
    · show impl_Colouring_ups_l0 k x c (k' + 1) j _ = _
      rw [impl_Colouring_ups_l0, w64_succ h0 h1 (by omega)]
      simp only [Int.toNat_natCast, upS_length x c x.p.toNat j _ (show j < x.p.toNat by omega), upS_set]
      rw [implUp_l1 x hp.2 c j h1 k (by omega)]
      simp only [h1, decide_true, if_true]
      rw [if_pos (by omega)]; rfl
    · rw [show ((j : Int) + 1).toNat = j + 1 by omega]
      exact upS_next x c x.p.toNat j (by omega)
    · rw [show x.p.toNat = j + 1 by omega]
      simp [upS, upL]
  · intro k' i s h0 h1 ⟨_, q, q2⟩
    have e : i = x.p := by omega
    refine ⟨_, ?_, q e⟩
    show impl_Colouring_ups_l0 k x c (k' + 1) i s = _
    rw [impl_Colouring_ups_l0]
    have : ¬ i < x.p := by omega
    simp [this]

theorem implUp_l3 (x : Col) (hp : x.p ≤ 17) (c i : Int) (hi0 : 0 ≤ i) (hi : i < x.p) : ∀ (k : Nat) (j : Int) (s : List Int), i < j → (x.p - j).toNat < k → (s.length : Int) = x.p → ∃ r, impl_Colouring_ups_l3 x c i k j s = some r ∧ (r.length : Int) = x.p := by
  refine fun k j s hj hk hs => loopI (f := fun k j (s : List Int) => impl_Colouring_ups_l3 x c i k j s) x.p (i + 1) (fun j s => (s.length : Int) = x.p) (fun r => (r.length : Int) = x.p) ?_ ?_ k j s (by omega) hk hs
  · intro k j s h0 h1 q
    left
    show ∃ s', impl_Colouring_ups_l3 x c i (k + 1) j s = _ ∧ _
    rw [impl_Colouring_ups_l3, w64_id (show -9223372036854775808 ≤ j + 1 ∧ j + 1 < 9223372036854775808 by omega), implAt_eq x i j hi0 (by omega) (by omega) (by omega)]
    simp only [h1, decide_true, if_true, Option.bind_some]
    by_cases hc : x.cc i j = c
    · simp only [hc, decide_true, if_true]
      rw [if_pos (show 0 ≤ i ∧ i < (s.length : Int) by omega), if_pos (show 0 ≤ j ∧ j < (s.length : Int) by omega), if_pos (show 0 ≤ i ∧ i < (s.length : Int) by omega)]
      exact ⟨_, rfl, by simpa using q⟩
    · simp only [hc, decide_false, Bool.false_eq_true, if_false]
      exact ⟨s, rfl, q⟩
  · intro k j s h0 h1 q
    refine ⟨s, ?_, q⟩
    show impl_Colouring_ups_l3 x c i (k + 1) j s = _
    rw [impl_Colouring_ups_l3]
    have : ¬ j < x.p := by omega
    simp [this]
theorem implUp_l2 (x : Col) (hp : x.p ≤ 17) (c : Int) (k : Nat) (hk : 19 ≤ k) : ∀ (k' : Nat) (i : Int) (s : List Int), i < x.p → -1 ≤ i → (i + 1).toNat < k' → (s.length : Int) = x.p → ∃ r, impl_Colouring_ups_l2 k x c k' i s = some r := by
  intro k'
  induction k' with
  | zero => intro i s _ _ h; omega
  | succ k' ih =>
    intro i s h1 h0 hk' q
    rw [impl_Colouring_ups_l2]
    by_cases hi : 0 ≤ i
    · obtain ⟨r, e, hr⟩ := implUp_l3 x hp c i hi h1 k (i + 1) (s.set i.toNat 1) (by omega) (by omega) (by simpa using q)
      rw [w64_id (show -9223372036854775808 ≤ i + 1 ∧ i + 1 < 9223372036854775808 by omega), w64_id (show -9223372036854775808 ≤ i - 1 ∧ i - 1 < 9223372036854775808 by omega), e]
      simp only [hi, decide_true, if_true]
      rw [if_pos (show True ∧ i < (s.length : Int) from ⟨trivial, by omega⟩)]
      exact ih (i - 1) r (by omega) (by omega) (by omega) hr
    · simp [hi]

theorem ups_eq (x : Col) (hp : 1 ≤ x.p ∧ x.p ≤ 17) (c : Int) (k : Nat) (hk : 20 ≤ k) : ∃ f, impl_Colouring_ups k x c = some (upL x c x.p.toNat, f) := by
  unfold impl_Colouring_ups
  obtain ⟨f, hf⟩ := implUp_l2 x hp.2 c k (by omega) k (x.p - 1) (List.replicate x.p.toNat 0) (by omega) (by omega) (by omega) (by simp; omega)
  rw [if_pos ⟨by omega, by omega, by omega⟩, if_pos ⟨by omega, by omega, by omega⟩, implUp_l0 x hp c k hk, w64_id (by omega), hf]
  exact ⟨f, rfl⟩

theorem colourCode_eq (k : Nat) (x : Col) (c : Int) (hk : 137 ≤ k) [Decidable x.is] [Decidable (0 ≤ c ∧ c ≤ x.k - 1)] : impl_Colouring_colourCode k x c true = some (if x.is then (if 0 ≤ c ∧ c ≤ x.k - 1 then 0 else 2) else 1) := by
  classical
  unfold impl_Colouring_colourCode impl_Colouring_code impl_Colouring_colourCode_c1 impl_Colouring_hasColour
  rw [isColouring_eq k hk, in_eq]
  by_cases h : x.is
  · have := h.2.1
    rw [w64_id (by omega)]
    by_cases hc : 0 ≤ c ∧ c ≤ x.k - 1
    · simp [h, hc, letO]
    · simp [h, hc, letO]
  · simp [h]

theorem up_pure (x : Col) (c : Int) : laws_FnExactUpLengths 300 x c = some true := by
  classical
  have key : ∃ (o : Option (List Int)) (e : Int), spec_UpLengths 300 x c = some (o.getD [], e) ∧ impl_UpLengths 300 x c = some (o, e) ∧ (o.getD []).length ≤ 17 := by
    unfold spec_UpLengths impl_UpLengths
    rw [specGiven_eq 300 x c [] (by simp) (by simp), colourCode_eq 300 x c (by omega)]
    have hin : inP x [] := fun i h0 h1 => by simp at h1; omega
    by_cases h : x.is
    · by_cases hc : 0 ≤ c ∧ c ≤ x.k - 1
      · obtain ⟨f, hf⟩ := ups_eq x h.1 c 300 (by omega)
        refine ⟨some (upL x c x.p.toNat), 0, ?_, ?_, ?_⟩
        · rw [if_pos h, if_pos ⟨hc, hin⟩, specUp_l0 x h.1 c 300 (by omega)]; rfl
        · rw [if_pos h, if_pos hc, hf]; rfl
        · simp [upL_length]; have := h.1; omega
      · refine ⟨none, 2, ?_, ?_, by simp⟩
        · rw [if_pos h, if_neg (fun h => hc h.1)]; rfl
        · rw [if_pos h, if_neg hc]; rfl
    · refine ⟨none, 1, ?_, ?_, by simp⟩
      · rw [if_neg h]; rfl
      · rw [if_neg h]; rfl
  obtain ⟨o, e, h1, h2, h3⟩ := key
  unfold laws_FnExactUpLengths
  rw [toColouring_eq 300 (by omega)]
  simp only [Option.bind_some]
  rw [h1]
  simp only [Option.bind_some]
  rw [h2]
  simp only [Option.bind_some]
  cases o with
  | none =>
    simp only [Option.getD_none]
    rw [eqInts_refl 300 [] (by simp) (by simp), mark_nil 300 (by omega), held_nil 300 (by omega)]
    simp
  | some l =>
    simp only [Option.getD_some] at h3 ⊢
    rw [eqInts_refl 300 l (by omega) (by omega), mark_eq 300 l (by omega) (by omega)]
    simp only [Option.bind_some]
    rw [held_eq 300 l.length (by omega) (by omega)]
    have : ¬ (1 + (l.length : Int) < 0) := by omega
    simp [this]
end Go.Proofs.Ytjkanhdklfgghaa
