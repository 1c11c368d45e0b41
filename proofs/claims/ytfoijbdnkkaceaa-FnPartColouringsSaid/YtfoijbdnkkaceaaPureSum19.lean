/- Plain laws of FnPartColourings, part one: parts, their colourings, faults. No conditions beyond those that each lemma states. -/
import Derived.Test.YtfoijbdnkkaceaaPureClqF19
import Derived.Test.YtfoijbdnkkaceaaTri
set_option linter.unusedVariables false
set_option linter.unusedSimpArgs false
namespace Go.Proofs.Ytfoijbdnkkaceaa
open Go Go.RowKit Ab

theorem gD {l : List Int} {i : Nat} (h : i < l.length) : l.getD i 0 = l[i] := by simp [List.getD, h]
theorem gDm {l : List Int} {i : Nat} (h : i < l.length) : l.getD i 0 ∈ l := by rw [gD h]; exact List.getElem_mem h

/-! ### Parts -/
def isP (k : Int) (l : List Int) : Prop := (1 ≤ k ∧ k ≤ 3) ∧ l.length ≤ 40 ∧ ∀ z ∈ l, 0 ≤ z ∧ z ≤ k - 1
open Classical in
theorem isPart_val {K : Nat} (hK : 5000 ≤ K) (k : Int) (l : List Int) (hl : l.length ≤ 1000) : impl_isPart K k l = some (decide (isP k l)) := by
  unfold impl_isPart impl_size
  rw [in_eq]
  by_cases h1 : 1 ≤ k ∧ k ≤ 3
  · rw [decide_eq_true h1]
    by_cases h2 : (l.length : Int) ≤ 40
    · rw [decide_eq_true h2, areIn_val K l _ _ _ (by omega) (by omega), w64_id (by omega)]
      simp only [if_true, Option.bind_some]
      congr 1
      rw [decide_eq_decide]
      exact ⟨fun h => ⟨h1, by omega, h.2⟩, fun h => ⟨by trivial, h.2.2⟩⟩
    · rw [decide_eq_false h2, decide_eq_false (fun h : isP k l => h2 (by have := h.2.1; omega))]
      simp
  · rw [decide_eq_false h1, decide_eq_false (fun h : isP k l => h1 h.1)]
    simp

open Classical in
theorem partCode_spec {K : Nat} (hK : 5000 ≤ K) (k : Int) (l : List Int) (kind : Int) (hl : l.length ≤ 1000) : spec_l07Code K k l kind = some (if isP k l ∧ 0 ≤ kind ∧ kind ≤ 2 then 0 else 2) := by
  have yes : isP k l ∧ 0 ≤ kind ∧ kind ≤ 2 → (if isP k l ∧ 0 ≤ kind ∧ kind ≤ 2 then (0 : Int) else 2) = 0 := fun h => if_pos h
  have no : ¬ (isP k l ∧ 0 ≤ kind ∧ kind ≤ 2) → (if isP k l ∧ 0 ≤ kind ∧ kind ≤ 2 then (0 : Int) else 2) = 2 := fun h => if_neg h
  unfold spec_l07Code
  rw [specIn_eq]
  by_cases h1 : 1 ≤ k ∧ k ≤ 3
  · rw [decide_eq_true h1]
    by_cases h2 : (40 : Int) < (l.length : Int)
    · rw [decide_eq_true h2, no (fun h => by have := h.1.2.1; omega)]
      simp
    · rw [decide_eq_false h2, specAll_eq K l k (by omega) (by omega) (by omega)]
      have e : (∀ i : Int, 0 ≤ i → i < l.length → 0 ≤ li l i ∧ li l i ≤ k - 1) ↔ ∀ z ∈ l, 0 ≤ z ∧ z ≤ k - 1 := by
        constructor
        · intro h z hz
          obtain ⟨i, hi, rfl⟩ := List.getElem_of_mem hz
          have := h i (by omega) (by omega)
          unfold li at this
          rw [Int.toNat_natCast, gD hi] at this
          exact this
        · intro h i h0 h1
          exact h _ (gDm (by omega))
      by_cases h3 : ∀ i : Int, 0 ≤ i → i < l.length → 0 ≤ li l i ∧ li l i ≤ k - 1
      · rw [decide_eq_true h3, specIn_eq]
        by_cases h4 : 0 ≤ kind ∧ kind ≤ 2
        · rw [decide_eq_true h4, yes ⟨⟨h1, by omega, e.1 h3⟩, h4⟩]
          simp
        · rw [decide_eq_false h4, no (fun h => h4 h.2)]
          simp
      · rw [decide_eq_false h3, no (fun h => h3 (e.2 h.1.2.2))]
        simp
  · rw [decide_eq_false h1, no (fun h => h1 h.1.1)]
    simp

/-! ### Colourings of parts -/
def prG (l : List Int) (a b : Nat) : UInt8 := toByte (l.getD (b - a - 1) 0)
theorem implCol {K : Nat} (hK : 5000 ≤ K) (k : Int) (l : List Int) (hl : l.length ≤ 16) : ∃ y : Col, impl_colouringOf K k l = some y ∧ Made y ((l.length : Int) + 1) k (prG l) := by
  unfold impl_colouringOf impl_size
  rw [w64_id (by omega)]
  obtain ⟨y, e, h⟩ := made_eq (fun a0 a1 => impl_colouringOf_c1 a0 a1 l) ((l.length : Int) + 1) (by omega) (by omega) (fun a b => l.getD (b - a - 1) 0) (fun i j hij hj => by
    unfold impl_colouringOf_c1
    rw [w64_id (n := (j : Int) - i) (by omega), w64_id (by omega), if_pos (by omega)]
    congr 2
    omega) k K (by omega)
  exact ⟨y, by rw [e]; rfl, h⟩

theorem specCol_l1 (l : List Int) (hl : l.length ≤ 16) (j : Nat) (hj : j < l.length + 1) (p c : Int) : ∀ k, 18 ≤ k → ∀ x : Col, x.p = p → x.k = c → MInv (l.length + 1) (prG l) j 0 x.e →
    ∃ y : Col, spec_l07Colouring_l1 l j k 0 x = some y ∧ y.p = p ∧ y.k = c ∧ MInv (l.length + 1) (prG l) j j y.e := by
  intro k hk x hp hc hx
  refine loopI (f := fun k i s => spec_l07Colouring_l1 l (j : Int) k i s) (j : Int) 0 (fun i s => s.p = p ∧ s.k = c ∧ MInv (l.length + 1) (prG l) j i.toNat s.e ∧ i ≤ j) (fun y => y.p = p ∧ y.k = c ∧ MInv (l.length + 1) (prG l) j j y.e) ?_ ?_ k 0 x (by omega) (by omega) ⟨hp, hc, hx, by omega⟩
  · intro k i s h0 h1 ⟨q1, q2, q3, _⟩
    left
    obtain ⟨m, rfl⟩ := nat_of h0
    have h136 := eN_136 (i := m) (j := j) (by omega) (by omega) (by omega)
    have h136' : (0 : Int) ≤ ((eN m j : Nat) : Int) ∧ ((eN m j : Nat) : Int) < 136 := by omega
    have hix : 0 ≤ (j : Int) - m - 1 ∧ (j : Int) - m - 1 < (l.length : Int) := by omega
    have hiy : ((j : Int) - m - 1).toNat = j - m - 1 := by omega
    refine ⟨s.set (eN m j) (prG l m j), ?_, q1, q2, ?_, by omega⟩
    · show spec_l07Colouring_l1 l (j : Int) (k + 1) m s = _
      rw [spec_l07Colouring_l1, w64_succ h0 h1 (by omega), edge_eq m j (by omega) (by omega), w64_id (n := (j : Int) - m) (by omega), w64_id (n := (j : Int) - m - 1) (by omega)]
      simp only [Int.toNat_natCast, h1, decide_true, if_true, if_pos hix, if_pos h136', hiy]
      rfl
    · have := MInv.step (by omega) q3 hj (show m < j by omega)
      exact this
  · intro k i s h0 h1 ⟨q1, q2, q3, q4⟩
    have : i = j := by omega
    subst this
    refine ⟨s, ?_, q1, q2, q3⟩
    show spec_l07Colouring_l1 l (j : Int) (k + 1) j s = _
    rw [spec_l07Colouring_l1]; simp
theorem MInv.one {n : Nat} {g : Nat → Nat → UInt8} {x : B136} (h : MInv n g 0 0 x) : MInv n g 1 0 x := MInv.row h
theorem specCol {K : Nat} (hK : 5000 ≤ K) (k : Int) (l : List Int) (hl : l.length ≤ 16) : ∃ y : Col, spec_l07Colouring K k l = some y ∧ Made y ((l.length : Int) + 1) k (prG l) := by
  unfold spec_l07Colouring
  rw [w64_id (by omega)]
  have := loopI (f := fun k' i s => spec_l07Colouring_l0 K l k' i s) ((l.length : Int) + 1) 1 (fun i (s : Col) => s.p = (l.length : Int) + 1 ∧ s.k = k ∧ MInv (l.length + 1) (prG l) i.toNat 0 s.e ∧ i ≤ (l.length : Int) + 1) (fun y => Made y ((l.length : Int) + 1) k (prG l)) ?_ ?_ K 1 (⟨(l.length : Int) + 1, k, B136.zero⟩ : Col) (by omega) (by omega) ⟨rfl, rfl, MInv.one (MInv.start _ _), by omega⟩
  · obtain ⟨y, e, h⟩ := this
    exact ⟨y, by rw [e]; rfl, h⟩
  · intro k' i s h0 h1 ⟨q1, q2, q3, _⟩
    left
    obtain ⟨j, rfl⟩ := nat_of (show 0 ≤ i by omega)
    obtain ⟨y, e, h1', h2', h3'⟩ := specCol_l1 l hl j (by omega) ((l.length : Int) + 1) k K (by omega) s q1 q2 q3
    refine ⟨y, ?_, h1', h2', MInv.row h3', by omega⟩
    show spec_l07Colouring_l0 K l (k' + 1) j s = _
    rw [spec_l07Colouring_l0, e, w64_succ (by omega) h1 (by omega), q1]
    simp only [h1, decide_true, if_true, Option.bind_some]
  · intro k' i s h0 h1 ⟨q1, q2, q3, q4⟩
    have : i = (l.length : Int) + 1 := by omega
    subst this
    refine ⟨s, ?_, MInv.made (n := l.length + 1) (by simpa using q3) (by rw [q1]; omega) q2⟩
    show spec_l07Colouring_l0 K l (k' + 1) ((l.length : Int) + 1) s = _
    rw [spec_l07Colouring_l0, q1]; simp

theorem col_same {K : Nat} (hK : 5000 ≤ K) (k : Int) (l : List Int) (hl : l.length ≤ 16) : ∃ y : Col, impl_colouringOf K k l = some y ∧ spec_l07Colouring K k l = some y ∧ Made y ((l.length : Int) + 1) k (prG l) := by
  obtain ⟨y, e, h⟩ := implCol hK k l hl
  obtain ⟨z, e', h'⟩ := specCol hK k l hl
  have := Made.eq (by omega) (by omega) h' h (fun _ _ _ _ => rfl)
  subst this
  exact ⟨z, e, e', h⟩

open Classical in
theorem colOfPart_val {K : Nat} (hK : 5000 ≤ K) (k : Int) (l : List Int) (hl : l.length ≤ 1000) :
    (¬ (isP k l ∧ l.length ≤ 16) ∧ impl_ColouringOfPart K k l = some (⟨0, 0, B136.zero⟩, 2) ∧ spec_ColouringOfPart K k l = some (⟨0, 0, B136.zero⟩, 2)) ∨
    (isP k l ∧ l.length ≤ 16 ∧ ∃ y : Col, impl_ColouringOfPart K k l = some (y, 0) ∧ spec_ColouringOfPart K k l = some (y, 0) ∧ impl_colouringOf K k l = some y ∧ Made y ((l.length : Int) + 1) k (prG l)) := by
  unfold impl_ColouringOfPart spec_ColouringOfPart
  rw [isPart_val hK k l hl, partCode_spec hK k l 0 hl]
  by_cases h1 : isP k l
  · rw [decide_eq_true h1, if_pos ⟨h1, by omega, by omega⟩]
    by_cases h2 : l.length ≤ 16
    · right
      obtain ⟨y, e1, e2, h⟩ := col_same hK k l h2
      have h3 : ¬ (16 : Int) < (l.length : Int) := by omega
      refine ⟨h1, h2, y, ?_, ?_, e1, h⟩
      · simp [h3, e1]
      · simp [h3, e2]
    · left
      have h3 : (16 : Int) < (l.length : Int) := by omega
      refine ⟨fun h => h2 h.2, ?_, ?_⟩ <;> simp [h3]
  · left
    rw [decide_eq_false h1, if_neg (fun h => h1 h.1)]
    refine ⟨fun h => h1 h.1, ?_, ?_⟩ <;> simp

/-! ### Parts of colourings -/
def partL (x : Col) : List Int := (List.range (x.p.toNat - 1)).map fun j : Nat => x.cc 0 ((j : Int) + 1)
theorem partL_length (x : Col) : (partL x).length = x.p.toNat - 1 := by simp [partL]
theorem partL_get (x : Col) (j : Nat) (h : j < x.p.toNat - 1) : (partL x).getD j 0 = x.cc 0 ((j : Int) + 1) := by simp [partL, List.getD, h]
theorem partL_take (x : Col) (j : Nat) (h : j < x.p.toNat - 1) : (partL x).take (j + 1) = (partL x).take j ++ [x.cc 0 ((j : Int) + 1)] := by
  have hj : j < (partL x).length := by rw [partL_length]; exact h
  rw [← List.take_append_getElem hj]
  congr 2
  have := partL_get x j h
  rw [gD hj] at this
  exact this

theorem partImpl {K : Nat} (hK : 5000 ≤ K) (x : Col) (hp : 1 ≤ x.p ∧ x.p ≤ 17) : impl_PartOfColouring_l0 x K 1 [] = some (partL x) := by
  have := loopI (f := fun k' i s => impl_PartOfColouring_l0 x k' i s) x.p 1 (fun i (s : List Int) => i ≤ x.p ∧ s = (partL x).take (i.toNat - 1)) (fun r => r = partL x) ?_ ?_ K 1 [] (by omega) (by omega) ⟨by omega, by simp⟩
  · obtain ⟨r, e, rfl⟩ := this
    exact e
  · intro k' i s h0 h1 ⟨_, q⟩
    left
    obtain ⟨j, rfl⟩ : ∃ j : Nat, i = (j : Int) + 1 := ⟨(i - 1).toNat, by omega⟩
    have e1 : ((j : Int) + 1).toNat - 1 = j := by omega
    have e2 : ((j : Int) + 1 + 1).toNat - 1 = j + 1 := by omega
    rw [e1] at q
    refine ⟨s ++ [x.cc 0 ((j : Int) + 1)], ?_, by omega, by rw [e2, partL_take x j (by omega), q]⟩
    show impl_PartOfColouring_l0 x (k' + 1) ((j : Int) + 1) s = _
    have hl : s.length + ([x.cc 0 ((j : Int) + 1)]).length ≤ 1099511627776 := by rw [q]; simp; omega
    rw [impl_PartOfColouring_l0, w64_succ (by omega) h1 (by omega), implAt_ne x 0 ((j : Int) + 1) (by omega) (by omega) (by omega) (by omega) (by omega)]
    simp only [h1, decide_true, if_true, Option.bind_some, if_pos hl]
  · intro k' i s h0 h1 ⟨q1, q2⟩
    have : i = x.p := by omega
    subst this
    refine ⟨s, ?_, by rw [q2]; exact List.take_of_length_le (by rw [partL_length]; exact Nat.le_refl _)⟩
    show impl_PartOfColouring_l0 x (k' + 1) x.p s = _
    rw [impl_PartOfColouring_l0]; simp
theorem partSpec {K : Nat} (hK : 5000 ≤ K) (x : Col) (hp : 1 ≤ x.p ∧ x.p ≤ 17) : spec_PartOfColouring_l0 x K 1 [] = some (partL x) := by
  have := loopI (f := fun k' i s => spec_PartOfColouring_l0 x k' i s) x.p 1 (fun i (s : List Int) => i ≤ x.p ∧ s = (partL x).take (i.toNat - 1)) (fun r => r = partL x) ?_ ?_ K 1 [] (by omega) (by omega) ⟨by omega, by simp⟩
  · obtain ⟨r, e, rfl⟩ := this
    exact e
  · intro k' i s h0 h1 ⟨_, q⟩
    left
    obtain ⟨j, rfl⟩ : ∃ j : Nat, i = (j : Int) + 1 := ⟨(i - 1).toNat, by omega⟩
    have e1 : ((j : Int) + 1).toNat - 1 = j := by omega
    have e2 : ((j : Int) + 1 + 1).toNat - 1 = j + 1 := by omega
    rw [e1] at q
    refine ⟨s ++ [x.cc 0 ((j : Int) + 1)], ?_, by omega, by rw [e2, partL_take x j (by omega), q]⟩
    show spec_PartOfColouring_l0 x (k' + 1) ((j : Int) + 1) s = _
    have hl : s.length + ([x.cc 0 ((j : Int) + 1)]).length ≤ 1099511627776 := by rw [q]; simp; omega
    rw [spec_PartOfColouring_l0, w64_succ (by omega) h1 (by omega), specAt_ne x 0 ((j : Int) + 1) (by omega) (by omega) (by omega) (by omega) (by omega)]
    simp only [h1, decide_true, if_true, Option.bind_some, if_pos hl]
  · intro k' i s h0 h1 ⟨q1, q2⟩
    have : i = x.p := by omega
    subst this
    refine ⟨s, ?_, by rw [q2]; exact List.take_of_length_le (by rw [partL_length]; exact Nat.le_refl _)⟩
    show spec_PartOfColouring_l0 x (k' + 1) x.p s = _
    rw [spec_PartOfColouring_l0]; simp

theorem partOf_val {K : Nat} (hK : 5000 ≤ K) (x : Col) :
    (∃ e, e ≠ 0 ∧ impl_PartOfColouring K x = some (none, e) ∧ spec_PartOfColouring K x = some ([], e) ∧ ¬ (x.is ∧ x.k ≤ 3 ∧ impl_colouringOf K x.k (partL x) = some x)) ∨
    (x.is ∧ x.k ≤ 3 ∧ impl_colouringOf K x.k (partL x) = some x ∧ impl_PartOfColouring K x = some (some (partL x), 0) ∧ spec_PartOfColouring K x = some (partL x, 0)) := by
  unfold impl_PartOfColouring spec_PartOfColouring impl_PartOfColouring_c1 impl_Colouring_code
  rw [isColouring_eq K (by omega), specIs_eq K (by omega)]
  by_cases h : x.is
  · by_cases h3 : x.k ≤ 3
    · have h3' : ¬ (3 : Int) < x.k := by omega
      obtain ⟨y, e1, e2, _⟩ := col_same hK x.k (partL x) (by rw [partL_length]; have := h.1; omega)
      rw [partImpl hK x h.1, partSpec hK x h.1]
      simp only [h, decide_true, h3, h3', Option.bind_some, Bool.not_true, Bool.false_eq_true, if_false, decide_false, e1, e2]
      cases hq : y.eqb x with
      | true =>
        have : y = x := (Col.eqb_iff y x).1 hq
        subst this
        right
        exact ⟨trivial, trivial, rfl, by simp, by simp⟩
      | false =>
        left
        refine ⟨5, by decide, by simp, by simp, fun q => ?_⟩
        have := q.2.2
        cases this
        rw [(Col.eqb_iff x x).2 rfl] at hq
        cases hq
    · left
      have h3' : (3 : Int) < x.k := by omega
      exact ⟨2, by decide, by simp [h, h3], by simp [h, h3'], fun q => h3 q.2.1⟩
  · left
    exact ⟨1, by decide, by simp [h], by simp [h], fun q => h q.1⟩
end Go.Proofs.Ytfoijbdnkkaceaa
