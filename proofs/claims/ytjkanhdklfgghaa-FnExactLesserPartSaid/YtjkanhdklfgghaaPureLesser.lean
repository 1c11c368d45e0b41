/- The plain law of FnExactIsLesserColoured: the program's answer is the reference's. No conditions beyond those that each lemma states. -/
import Derived.Test.YtjkanhdklfgghaaPureBase
set_option linter.unusedVariables false
set_option linter.unusedSimpArgs false
namespace Go.Proofs.Ytjkanhdklfgghaa
open Go Go.RowKit Ab

/-! ### Sets of points -/
abbrev li (l : List Int) (i : Int) : Int := l.getD i.toNat 0
def inP (x : Col) (l : List Int) : Prop := ∀ i : Int, 0 ≤ i → i < l.length → 0 ≤ li l i ∧ li l i ≤ x.p - 1
def inc (l : List Int) : Prop := ∀ i : Int, 1 ≤ i → i < l.length → li l (i - 1) < li l i

open Classical in
theorem specAll_eq (k : Nat) (l : List Int) (p : Int) (hk : l.length + 1 ≤ k) (hl : (l.length : Int) ≤ 1099511627776) (hp : -9223372036854775808 ≤ p - 1 ∧ p - 1 < 9223372036854775808) : spec_l01All k l p = some (decide (∀ i : Int, 0 ≤ i → i < l.length → 0 ≤ li l i ∧ li l i ≤ p - 1)) := by
  unfold spec_l01All
  rw [loopAll (f := fun k' i => spec_l01All_l0 l p k' i) (l.length : Int) false (fun i => 0 ≤ li l i ∧ li l i ≤ p - 1) 0 ?_ ?_ ?_ k 0 (by omega) (by omega)]
  · by_cases h : ∀ i : Int, 0 ≤ i → i < l.length → 0 ≤ li l i ∧ li l i ≤ p - 1
    · rw [if_pos h]; simp only [Option.bind_some]; rw [decide_eq_true h]
    · rw [if_neg h]; simp only [Option.bind_some]; rw [decide_eq_false h]
  · intro k' i h0 h1 hq
    show spec_l01All_l0 l p (k' + 1) i = _
    rw [spec_l01All_l0, w64_succ h0 h1 (by omega), specIn_eq, w64_id hp]
    simp only [h0, h1, and_self, if_true, decide_true]
    rw [decide_eq_true (show 0 ≤ l.getD i.toNat 0 ∧ l.getD i.toNat 0 ≤ p - 1 from hq)]; simp
  · intro k' i h0 h1 hq
    show spec_l01All_l0 l p (k' + 1) i = _
    rw [spec_l01All_l0, specIn_eq, w64_id hp]
    simp only [h0, h1, and_self, if_true, decide_true]
    rw [decide_eq_false (show ¬ (0 ≤ l.getD i.toNat 0 ∧ l.getD i.toNat 0 ≤ p - 1) from hq)]; simp
  · intro k' i h1
    show spec_l01All_l0 l p (k' + 1) i = _
    rw [spec_l01All_l0]
    have : ¬ i < (l.length : Int) := by omega
    simp [this]

/-- What the reference answers to a colouring, a colour and numbers of points. -/
theorem specGiven_eq (k : Nat) (x : Col) (c : Int) (l : List Int) (hk : l.length + 137 ≤ k) (hl : (l.length : Int) ≤ 1099511627776) [Decidable x.is] [Decidable ((0 ≤ c ∧ c ≤ x.k - 1) ∧ inP x l)] :
    spec_l01Given k x c l = some (if x.is then (if (0 ≤ c ∧ c ≤ x.k - 1) ∧ inP x l then 0 else 2) else 1) := by
  classical
  unfold spec_l01Given
  rw [specIs_eq k (by omega)]
  by_cases h : x.is
  · have hp := h.1; have hkk := h.2.1
    rw [specAll_eq k l x.p (by omega) hl (by omega), specIn_eq, w64_id (by omega)]
    by_cases hc : 0 ≤ c ∧ c ≤ x.k - 1
    · by_cases hi : inP x l
      · have e : decide (∀ i : Int, 0 ≤ i → i < l.length → 0 ≤ li l i ∧ li l i ≤ x.p - 1) = true := decide_eq_true hi
        rw [e]; simp [h, hc, hi]
      · have e : decide (∀ i : Int, 0 ≤ i → i < l.length → 0 ≤ li l i ∧ li l i ≤ x.p - 1) = false := decide_eq_false hi
        rw [e]; simp [h, hc, hi]
    · simp [h, hc]
  · simp [h]

open Classical in
theorem specSet_eq (k : Nat) (x : Col) (l : List Int) (hk : l.length + 137 ≤ k) (hl : (l.length : Int) ≤ 1099511627776) :
    spec_l01Set k x l = some (if x.is then (if inP x l ∧ inc l then 0 else 2) else 1) := by
  unfold spec_l01Set
  rw [specGiven_eq k x 0 l hk hl]
  by_cases h : x.is
  · have hkk := h.2.1
    by_cases hi : inP x l
    · have hg : (0 ≤ (0 : Int) ∧ (0 : Int) ≤ x.k - 1) ∧ inP x l := ⟨by omega, hi⟩
      simp only [if_pos h, if_pos hg]
      simp only [Option.bind_some, decide_true, Bool.not_true, Bool.false_eq_true, if_false]
      rw [loopAll (f := fun k' i => spec_l01Set_l0 l k' i) (l.length : Int) 2 (fun i => li l (i - 1) < li l i) 1 ?_ ?_ ?_ k 1 (by omega) (by omega)]
      · by_cases hq : inc l
        · have : inP x l ∧ inc l := ⟨hi, hq⟩
          rw [if_pos (show ∀ j : Int, 1 ≤ j → j < l.length → li l (j - 1) < li l j from hq), if_pos this]; rfl
        · have : ¬ (inP x l ∧ inc l) := fun h => hq h.2
          rw [if_neg (show ¬ ∀ j : Int, 1 ≤ j → j < l.length → li l (j - 1) < li l j from hq), if_neg this]; rfl
      · intro k' i h0 h1 hq
        show spec_l01Set_l0 l (k' + 1) i = _
        rw [spec_l01Set_l0, w64_succ (by omega) h1 (by omega), w64_id (by omega)]
        have e : ¬ l.getD i.toNat 0 ≤ l.getD (i - 1).toNat 0 := Int.not_le.2 hq
        simp only [h1, decide_true, if_true, e, decide_false, Bool.false_eq_true, if_false]
        rw [if_pos (show 0 ≤ i ∧ True from ⟨by omega, trivial⟩), if_pos (show 0 ≤ i - 1 ∧ i - 1 < (l.length : Int) by omega)]
      · intro k' i h0 h1 hq
        show spec_l01Set_l0 l (k' + 1) i = _
        rw [spec_l01Set_l0, w64_id (by omega)]
        have e : l.getD i.toNat 0 ≤ l.getD (i - 1).toNat 0 := Int.not_lt.1 hq
        simp only [h1, decide_true, if_true, e]
        rw [if_pos (show 0 ≤ i ∧ True from ⟨by omega, trivial⟩), if_pos (show 0 ≤ i - 1 ∧ i - 1 < (l.length : Int) by omega)]
      · intro k' i h1
        show spec_l01Set_l0 l (k' + 1) i = _
        rw [spec_l01Set_l0]
        have : ¬ i < (l.length : Int) := by omega
        simp [this]
    · have hg : ¬ ((0 ≤ (0 : Int) ∧ (0 : Int) ≤ x.k - 1) ∧ inP x l) := fun h => hi h.2
      have : ¬ (inP x l ∧ inc l) := fun h => hi h.1
      simp only [if_pos h, if_neg hg, if_neg this]; simp
  · simp only [if_neg h]; simp

open Classical in
theorem isSet_eq (k : Nat) (x : Col) (h : x.is) (l : List Int) (hk : l.length + 1 ≤ k) (hl : (l.length : Int) ≤ 1099511627776) : impl_Colouring_isSet k x l = some (decide (inP x l ∧ inc l)) := by
  have hp := h.1
  unfold impl_Colouring_isSet
  rw [loopAll (f := fun k' i => impl_Colouring_isSet_l0 x l k' i) (l.length : Int) false (fun i => (0 ≤ li l i ∧ li l i ≤ x.p - 1) ∧ (0 < i → li l (i - 1) < li l i)) 0 ?_ ?_ ?_ k 0 (by omega) (by omega)]
  · have e : (∀ i : Int, 0 ≤ i → i < l.length → (0 ≤ li l i ∧ li l i ≤ x.p - 1) ∧ (0 < i → li l (i - 1) < li l i)) ↔ inP x l ∧ inc l :=
      ⟨fun h => ⟨fun i h0 h1 => (h i h0 h1).1, fun i h0 h1 => (h i (by omega) h1).2 (by omega)⟩, fun h i h0 h1 => ⟨h.1 i h0 h1, fun h2 => h.2 i (by omega) h1⟩⟩
    by_cases hq : inP x l ∧ inc l
    · rw [if_pos (e.2 hq), decide_eq_true hq]; rfl
    · rw [if_neg (fun h => hq (e.1 h)), decide_eq_false hq]; rfl
  · intro k' i h0 h1 hq
    show impl_Colouring_isSet_l0 x l (k' + 1) i = _
    rw [impl_Colouring_isSet_l0, w64_succ (by omega) h1 (by omega)]
    unfold impl_Colouring_has
    rw [in_eq, w64_id (by omega), decide_eq_true (show 0 ≤ l.getD i.toNat 0 ∧ l.getD i.toNat 0 ≤ x.p - 1 from hq.1)]
    by_cases hi : 0 < i
    · have e := hq.2 hi
      have e : ¬ l.getD i.toNat 0 ≤ l.getD (i - 1).toNat 0 := Int.not_le.2 e
      rw [w64_id (show -9223372036854775808 ≤ i - 1 ∧ i - 1 < 9223372036854775808 by omega)]
      simp only [h1, h0, hi, e, decide_true, decide_false, Bool.not_true, Bool.false_eq_true, if_true, if_false, and_self]
      rw [if_pos (show 0 ≤ i - 1 ∧ i - 1 < (l.length : Int) by omega)]
      rfl
    · simp only [h1, h0, hi, decide_true, decide_false, Bool.not_true, Bool.false_eq_true, if_true, if_false, and_self]
      rfl
  · intro k' i h0 h1 hq
    show impl_Colouring_isSet_l0 x l (k' + 1) i = _
    rw [impl_Colouring_isSet_l0]
    unfold impl_Colouring_has
    rw [in_eq, w64_id (show -9223372036854775808 ≤ x.p - 1 ∧ x.p - 1 < 9223372036854775808 by omega)]
    by_cases ha : 0 ≤ l.getD i.toNat 0 ∧ l.getD i.toNat 0 ≤ x.p - 1
    · have hi : 0 < i := by
        apply Int.not_le.1
        intro hi; exact hq ⟨ha, fun h => by omega⟩
      have e : l.getD i.toNat 0 ≤ l.getD (i - 1).toNat 0 := by
        apply Int.not_lt.1
        intro e; exact hq ⟨ha, fun _ => e⟩
      rw [w64_id (show -9223372036854775808 ≤ i - 1 ∧ i - 1 < 9223372036854775808 by omega), decide_eq_true ha]
      simp only [h1, h0, hi, e, decide_true, Bool.not_true, Bool.false_eq_true, if_true, if_false, and_self]
      rw [if_pos (show 0 ≤ i - 1 ∧ i - 1 < (l.length : Int) by omega)]
      rfl
    · rw [decide_eq_false ha]
      simp only [h1, h0, decide_true, Bool.not_false, if_true, and_self]
      rfl
  · intro k' i h1
    show impl_Colouring_isSet_l0 x l (k' + 1) i = _
    rw [impl_Colouring_isSet_l0]
    have : ¬ i < (l.length : Int) := by omega
    simp [this]

theorem inc_lt {l : List Int} (h : inc l) : ∀ (d : Nat) (i j : Int), 0 ≤ i → i < j → j < l.length → j = i + d → li l i < li l j := by
  intro d
  induction d with
  | zero => intro i j h0 h1 h2 e; omega
  | succ d ih =>
    intro i j h0 h1 h2 e
    have hs := h j (by omega) h2
    by_cases he : i = j - 1
    · rw [he]; exact hs
    · exact Int.lt_trans (ih i (j - 1) h0 (by omega) (by omega) (by omega)) hs
theorem inc_at {l : List Int} (h : inc l) {i j : Int} (h0 : 0 ≤ i) (h1 : i < j) (h2 : j < l.length) : li l i < li l j := inc_lt h (j - i).toNat i j h0 h1 h2 (by omega)

/-! ### Lesser-coloured -/
def goodL (x : Col) (l : List Int) (i : Int) : Prop := ∀ j, i + 2 ≤ j → j < (l.length : Int) → x.cc (li l i) (li l j) = x.cc (li l i) (li l (i + 1))

open Classical in
theorem specLesser_eq (k : Nat) (x : Col) (h : x.is) (l : List Int) (hi : inP x l) (hq : inc l) (hk : l.length + 3 ≤ k) (hl : (l.length : Int) ≤ 1099511627776) :
    spec_l10Lesser k x l = some (decide (∀ i : Int, 0 ≤ i → i < l.length → goodL x l i)) := by
  have hp := h.1
  have inner : ∀ i : Int, 0 ≤ i → i < l.length → spec_l10Lesser_l1 x l i k (i + 2) = some (if goodL x l i then .inl () else .inr (.inr false)) := by
    intro i h0 h1
    refine loopAll (f := fun k' j => spec_l10Lesser_l1 x l i k' j) (l.length : Int) (.inr false) (fun j => x.cc (li l i) (li l j) = x.cc (li l i) (li l (i + 1))) (i + 2) ?_ ?_ ?_ k (i + 2) (by omega) (by omega)
    · intro k' j g0 g1 hg
      show spec_l10Lesser_l1 x l i (k' + 1) j = _
      have a1 := hi i h0 h1; have a2 := hi j (by omega) g1; have a3 := hi (i + 1) (by omega) (by omega)
      have b1 := inc_at hq h0 (show i < j by omega) g1; have b2 := inc_at hq h0 (show i < i + 1 by omega) (by omega)
      rw [spec_l10Lesser_l1, w64_succ (by omega) g1 (by omega), w64_id (show -9223372036854775808 ≤ i + 1 ∧ i + 1 < 9223372036854775808 by omega), specAt_eq x _ _ a1.1 b1 a2.1 (by omega), specAt_eq x _ _ a1.1 b2 a3.1 (by omega)]
      simp only [g1, h0, h1, decide_true, if_true, and_self, Option.bind_some]
      rw [if_pos (show 0 ≤ j ∧ True from ⟨by omega, trivial⟩), if_pos (show 0 ≤ i + 1 ∧ i + 1 < (l.length : Int) by omega), decide_eq_true hg]
      rfl
    · intro k' j g0 g1 hg
      show spec_l10Lesser_l1 x l i (k' + 1) j = _
      have a1 := hi i h0 h1; have a2 := hi j (by omega) g1; have a3 := hi (i + 1) (by omega) (by omega)
      have b1 := inc_at hq h0 (show i < j by omega) g1; have b2 := inc_at hq h0 (show i < i + 1 by omega) (by omega)
      rw [spec_l10Lesser_l1, w64_id (show -9223372036854775808 ≤ i + 1 ∧ i + 1 < 9223372036854775808 by omega), specAt_eq x _ _ a1.1 b1 a2.1 (by omega), specAt_eq x _ _ a1.1 b2 a3.1 (by omega)]
      simp only [g1, h0, h1, decide_true, if_true, and_self, Option.bind_some]
      rw [if_pos (show 0 ≤ j ∧ True from ⟨by omega, trivial⟩), if_pos (show 0 ≤ i + 1 ∧ i + 1 < (l.length : Int) by omega), decide_eq_false hg]
      rfl
    · intro k' j g1
      show spec_l10Lesser_l1 x l i (k' + 1) j = _
      rw [spec_l10Lesser_l1]
      have : ¬ j < (l.length : Int) := by omega
      simp [this]
  unfold spec_l10Lesser
  rw [loopAll (f := fun k' i => spec_l10Lesser_l0 k x l k' i) (l.length : Int) false (goodL x l) 0 ?_ ?_ ?_ k 0 (by omega) (by omega)]
  · by_cases hg : ∀ i : Int, 0 ≤ i → i < l.length → goodL x l i
    · rw [if_pos hg, decide_eq_true hg]; rfl
    · rw [if_neg hg, decide_eq_false hg]; rfl
  · intro k' i h0 h1 hg
    show spec_l10Lesser_l0 k x l (k' + 1) i = _
    rw [spec_l10Lesser_l0, w64_succ (by omega) h1 (by omega), w64_id (show -9223372036854775808 ≤ i + 2 ∧ i + 2 < 9223372036854775808 by omega), inner i h0 h1, if_pos hg]
    simp [h1]
  · intro k' i h0 h1 hg
    show spec_l10Lesser_l0 k x l (k' + 1) i = _
    rw [spec_l10Lesser_l0, w64_id (show -9223372036854775808 ≤ i + 2 ∧ i + 2 < 9223372036854775808 by omega), inner i h0 h1, if_neg hg]
    simp [h1]
  · intro k' i h1
    show spec_l10Lesser_l0 k x l (k' + 1) i = _
    rw [spec_l10Lesser_l0]
    have : ¬ i < (l.length : Int) := by omega
    simp [this]

theorem drop_at (l : List Int) (n t : Nat) : ((l.take l.length).drop n).getD t 0 = l.getD (n + t) 0 := by
  rw [List.take_length]
  simp [List.getD]

open Classical in
theorem implLesser_eq (k : Nat) (x : Col) (h : x.is) (l : List Int) (hi : inP x l) (hq : inc l) (hk : l.length + 3 ≤ k) (hl : (l.length : Int) ≤ 1099511627776) :
    impl_IsLesserColoured_l0 k x l k 0 = some (if ∀ i : Int, 0 ≤ i → i < l.length → goodL x l i then .inl () else .inr (false, 0)) := by
  have hp := h.1
  have inner : ∀ i : Int, 0 ≤ i → i < l.length → impl_IsLesserColoured_l1 x l i k 0 = some (if goodL x l i then .inl () else .inr (.inr (false, 0))) := by
    intro i h0 h1
    have hd : (((l.take l.length).drop (i + 1).toNat).length : Int) = l.length - (i + 1) := by simp; omega
    have := loopAll (f := fun k' j => impl_IsLesserColoured_l1 x l i k' j) ((((l.take l.length).drop (i + 1).toNat).length : Int)) (.inr (false, 0)) (fun t => x.cc (li l i) (li l (i + 1 + t)) = x.cc (li l i) (li l (i + 1))) 0 ?_ ?_ ?_ k 0 (by omega) (by omega)
    · rw [this]
      have e : (∀ t, 0 ≤ t → t < (((l.take l.length).drop (i + 1).toNat).length : Int) → x.cc (li l i) (li l (i + 1 + t)) = x.cc (li l i) (li l (i + 1))) ↔ goodL x l i := by
        constructor
        · intro h j g0 g1
          have := h (j - (i + 1)) (by omega) (by omega)
          rwa [show i + 1 + (j - (i + 1)) = j by omega] at this
        · intro h t g0 g1
          by_cases ht : t = 0
          · rw [ht, Int.add_zero]
          · exact h (i + 1 + t) (by omega) (by omega)
      simp only [e]
    · intro k' t g0 g1 hg
      show impl_IsLesserColoured_l1 x l i (k' + 1) t = _
      have a1 := hi i h0 h1; have a2 := hi (i + 1 + t) (by omega) (by omega); have a3 := hi (i + 1) (by omega) (by omega)
      have b1 := inc_at hq h0 (show i < i + 1 + t by omega) (by omega); have b2 := inc_at hq h0 (show i < i + 1 by omega) (by omega)
      have ed : ((l.take l.length).drop (i + 1).toNat).getD t.toNat 0 = li l (i + 1 + t) := by rw [drop_at]; unfold li; congr 1; omega
      rw [impl_IsLesserColoured_l1, w64_id (show -9223372036854775808 ≤ i + 1 ∧ i + 1 < 9223372036854775808 by omega), w64_id (show -9223372036854775808 ≤ t + 1 ∧ t + 1 < 9223372036854775808 by omega), ed, implAt_eq x _ _ a1.1 b1 a2.1 (by omega), implAt_eq x _ _ a1.1 b2 a3.1 (by omega)]
      simp only [g1, g0, decide_true, if_true, and_self, Option.bind_some]
      rw [if_pos (show 0 ≤ i + 1 ∧ i + 1 < (l.length : Int) by omega), decide_eq_true hg]
      rfl
    · intro k' t g0 g1 hg
      show impl_IsLesserColoured_l1 x l i (k' + 1) t = _
      have a1 := hi i h0 h1; have a2 := hi (i + 1 + t) (by omega) (by omega); have a3 := hi (i + 1) (by omega) (by omega)
      have b1 := inc_at hq h0 (show i < i + 1 + t by omega) (by omega); have b2 := inc_at hq h0 (show i < i + 1 by omega) (by omega)
      have ed : ((l.take l.length).drop (i + 1).toNat).getD t.toNat 0 = li l (i + 1 + t) := by rw [drop_at]; unfold li; congr 1; omega
      rw [impl_IsLesserColoured_l1, w64_id (show -9223372036854775808 ≤ i + 1 ∧ i + 1 < 9223372036854775808 by omega), w64_id (show -9223372036854775808 ≤ t + 1 ∧ t + 1 < 9223372036854775808 by omega), ed, implAt_eq x _ _ a1.1 b1 a2.1 (by omega), implAt_eq x _ _ a1.1 b2 a3.1 (by omega)]
      simp only [g1, g0, decide_true, if_true, and_self, Option.bind_some]
      rw [if_pos (show 0 ≤ i + 1 ∧ i + 1 < (l.length : Int) by omega), decide_eq_false hg]
      rfl
    · intro k' t g1
      show impl_IsLesserColoured_l1 x l i (k' + 1) t = _
      rw [impl_IsLesserColoured_l1, w64_id (show -9223372036854775808 ≤ i + 1 ∧ i + 1 < 9223372036854775808 by omega)]
      have : ¬ t < (((l.take l.length).drop (i + 1).toNat).length : Int) := by omega
      simp only [this, decide_false, Bool.false_eq_true, if_false]
  refine loopAll (f := fun k' i => impl_IsLesserColoured_l0 k x l k' i) (l.length : Int) (false, 0) (goodL x l) 0 ?_ ?_ ?_ k 0 (by omega) (by omega)
  · intro k' i h0 h1 hg
    show impl_IsLesserColoured_l0 k x l (k' + 1) i = _
    rw [impl_IsLesserColoured_l0, w64_succ (by omega) h1 (by omega), inner i h0 h1, if_pos hg]
    simp only [h1, h0, decide_true, if_true, and_self]
    rw [if_pos (show 0 ≤ i + 1 ∧ i + 1 ≤ (l.length : Int) ∧ (l.length : Int) ≤ l.length by omega)]
    rfl
  · intro k' i h0 h1 hg
    show impl_IsLesserColoured_l0 k x l (k' + 1) i = _
    rw [impl_IsLesserColoured_l0, w64_id (show -9223372036854775808 ≤ i + 1 ∧ i + 1 < 9223372036854775808 by omega), inner i h0 h1, if_neg hg]
    simp only [h1, h0, decide_true, if_true, and_self]
    rw [if_pos (show 0 ≤ i + 1 ∧ i + 1 ≤ (l.length : Int) ∧ (l.length : Int) ≤ l.length by omega)]
    rfl
  · intro k' i h1
    show impl_IsLesserColoured_l0 k x l (k' + 1) i = _
    rw [impl_IsLesserColoured_l0]
    have : ¬ i < (l.length : Int) := by omega
    simp [this]

theorem lesser_pure (x : Col) (l : List Int) : laws_FnExactIsLesserColoured (l.length + 200) x l = some true := by
  classical
  unfold laws_FnExactIsLesserColoured
  by_cases hb : 1048576 < (l.length : Int)
  · simp [hb]
  rw [toInt64S_eq _ l (by omega) (by omega), toColouring_eq _ (by omega)]
  simp only [Option.bind_some, hb, decide_false, Bool.false_eq_true, if_false]
  have key : ∃ r, spec_IsLesserColoured (l.length + 200) x l = some r ∧ impl_IsLesserColoured (l.length + 200) x l = some r := by
    unfold spec_IsLesserColoured impl_IsLesserColoured impl_Colouring_code impl_IsLesserColoured_c1
    rw [specSet_eq _ x l (by omega) (by omega), isColouring_eq _ (by omega)]
    by_cases h : x.is
    · rw [isSet_eq _ x h l (by omega) (by omega), if_pos h]
      by_cases hs : inP x l ∧ inc l
      · rw [if_pos hs, specLesser_eq _ x h l hs.1 hs.2 (by omega) (by omega), implLesser_eq _ x h l hs.1 hs.2 (by omega) (by omega)]
        by_cases hg : ∀ i : Int, 0 ≤ i → i < l.length → goodL x l i
        · refine ⟨(true, 0), ?_, ?_⟩
          · simp only [decide_eq_true hg]; rfl
          · rw [if_pos hg, decide_eq_true h, decide_eq_true hs]; rfl
        · refine ⟨(false, 0), ?_, ?_⟩
          · simp only [decide_eq_false hg]; rfl
          · rw [if_neg hg, decide_eq_true h, decide_eq_true hs]; rfl
      · refine ⟨(false, 2), ?_, ?_⟩
        · rw [if_neg hs]; rfl
        · rw [decide_eq_true h, decide_eq_false hs]; rfl
    · refine ⟨(false, 1), ?_, ?_⟩
      · rw [if_neg h]; rfl
      · rw [decide_eq_false h]; rfl
  obtain ⟨r, e, e'⟩ := key
  rw [e]
  simp only [Option.bind_some]
  rw [e']
  simp only [Option.bind_some]
  rw [eqInts_refl _ l (by omega) (by omega)]
  simp [letO]
end Go.Proofs.Ytjkanhdklfgghaa
