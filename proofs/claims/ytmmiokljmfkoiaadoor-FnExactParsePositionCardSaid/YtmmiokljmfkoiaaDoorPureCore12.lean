/- Plain laws that positions need: lists. (Collected out of the own texts PureBase, PureMark and PurePerm.) No conditions beyond those that each lemma states. -/
import Derived.Test.YtmmiokljmfkoiaaDoorPKit
import Derived.Test.YtmmiokljmfkoiaaDoorGen12
set_option linter.unusedVariables false
set_option linter.unusedSimpArgs false
namespace Go.Proofs.YtmmiokljmfkoiaaDoor
open Go Go.RowKit Ab

theorem in_eq (a b c : Int) : impl_in a b c = decide (b ≤ a ∧ a ≤ c) := by
  unfold impl_in letO
  by_cases h : b ≤ a <;> by_cases h' : a ≤ c <;> simp [h, h']

theorem specIn_eq (a b c : Int) : spec_l01In a b c = decide (b ≤ a ∧ a ≤ c) := by
  unfold spec_l01In letO
  by_cases h : b ≤ a <;> by_cases h' : a ≤ c <;> simp [h, h']

theorem number_eq (i j : Int) (hi : 0 ≤ i ∧ i < 17) (hj : 0 ≤ j ∧ j < 17) : impl_number i j = (eN i.toNat j.toNat : Int) := by
  have : ∀ i, i < 17 → ∀ j, j < 17 → impl_number (i : Nat) (j : Nat) = (eN i j : Int) := by decide +kernel
  have h := this i.toNat (by omega) j.toNat (by omega)
  rwa [Int.toNat_of_nonneg hi.1, Int.toNat_of_nonneg hj.1] at h

theorem edge_eq (i j : Int) (hi : 0 ≤ i ∧ i < 17) (hj : 0 ≤ j ∧ j < 17) : spec_l01Edge i j = (eN i.toNat j.toNat : Int) := by
  have : ∀ i, i < 17 → ∀ j, j < 17 → spec_l01Edge (i : Nat) (j : Nat) = (eN i j : Int) := by decide +kernel
  have h := this i.toNat (by omega) j.toNat (by omega)
  rwa [Int.toNat_of_nonneg hi.1, Int.toNat_of_nonneg hj.1] at h

theorem eqInts_refl (k : Nat) (x : List Int) (h : x.length + 1 ≤ k) (hx : (x.length : Int) ≤ 1099511627776) : laws_eqInt64S k x x = some true := by
  unfold laws_eqInt64S
  have := loopAll (f := fun k' i => laws_eqInt64S_l0 x x k' i) (x.length : Int) false (fun _ => True) 0
    (fun k' i h0 h1 _ => by
      show laws_eqInt64S_l0 x x (k' + 1) i = _
      rw [laws_eqInt64S_l0, w64_succ h0 h1 (by omega)]
      simp [h0, h1])
    (fun k' i h0 h1 hq => (hq trivial).elim)
    (fun k' i h1 => by
      show laws_eqInt64S_l0 x x (k' + 1) i = _
      rw [laws_eqInt64S_l0]
      have : ¬ i < (x.length : Int) := by omega
      simp [this]) k 0 (by omega) (by omega)
  rw [this]; simp

/-- 1, 2, 3, .. -/
def marked (n : Nat) : List Int := (List.range n).map fun i : Nat => 1 + (i : Int)

theorem marked_length (n : Nat) : (marked n).length = n := by simp [marked]

theorem marked_get (n i : Nat) (h : i < n) : (marked n).getD i 0 = 1 + i := by simp [marked, List.getD, h]

theorem mark_eq (k : Nat) (l : List Int) (hk : l.length + 1 ≤ k) (hl : (l.length : Int) ≤ 1099511627776) : laws_markInt64S k l 1 = some ((1 : Int) + l.length, marked l.length) := by
  unfold laws_markInt64S
  have := loopI (f := fun k i (s : Int × List Int) => laws_markInt64S_l0 k s.1 i s.2) (l.length : Int) 0 (fun i s => s.2.length = l.length ∧ s.1 = 1 + i ∧ i ≤ l.length ∧ ∀ j : Nat, (j : Int) < i → s.2.getD j 0 = 1 + j)
    (fun r => r = (1 + (l.length : Int), marked l.length)) ?_ ?_ k 0 (1, l) (by omega) (by omega) ⟨rfl, rfl, by omega, fun j h => by omega⟩
  · obtain ⟨r, e, rfl⟩ := this
    rw [e]; rfl
  · intro k i s h0 h1 ⟨q1, q2, _, q4⟩
    left
    refine ⟨(1 + i + 1, s.2.set i.toNat s.1), ?_, by simp [q1], by simp; omega, by omega, ?_⟩
    · show laws_markInt64S_l0 (k + 1) s.1 i s.2 = _
      rw [laws_markInt64S_l0, q1, w64_succ h0 h1 (by omega), q2, w64_id (by omega)]
      simp [h0, h1]
    · intro j hj
      by_cases e : i.toNat = j
      · subst e
        simp only [List.getD, List.getElem?_set_self (show i.toNat < s.2.length by omega), Option.getD_some, q2]
        omega
      · have := q4 j (by omega)
        simp only [List.getD] at this ⊢
        rw [List.getElem?_set_ne e, this]
  · intro k i s h0 h1 ⟨q1, q2, q3, q4⟩
    have hi : i = l.length := by omega
    have e2 : s.2 = marked l.length := by
      refine List.ext_getElem (by rw [q1, marked_length]) fun j hj hj' => ?_
      have h1 := q4 j (by omega)
      have h2 := marked_get l.length j (by omega)
      simp only [List.getD, List.getElem?_eq_getElem hj, Option.getD_some] at h1
      simp only [List.getD, List.getElem?_eq_getElem hj', Option.getD_some] at h2
      rw [h1, h2]
    refine ⟨_, ?_, rfl⟩
    show laws_markInt64S_l0 (k + 1) s.1 i s.2 = _
    rw [laws_markInt64S_l0, q1, e2, q2, hi]
    have : ¬ (l.length : Int) < (l.length : Int) := by omega
    simp only [this, decide_false, Bool.false_eq_true, if_false]

theorem held_eq (k n : Nat) (hk : n + 1 ≤ k) (hl : (n : Int) ≤ 1099511627776) : laws_heldInt64S k (marked n) 1 = some (1 + n) := by
  unfold laws_heldInt64S
  have := loopI (f := fun k i (s : Int) => laws_heldInt64S_l0 (marked n) k s i) (n : Int) 0 (fun i s => s = 1 + i ∧ i ≤ n)
    (fun r => r = .inl (1 + (n : Int))) ?_ ?_ k 0 1 (by omega) (by omega) ⟨rfl, by omega⟩
  · obtain ⟨r, e, rfl⟩ := this
    rw [e]; rfl
  · intro k i s h0 h1 ⟨q1, _⟩
    left
    refine ⟨1 + i + 1, ?_, by omega, by omega⟩
    show laws_heldInt64S_l0 (marked n) (k + 1) s i = _
    rw [laws_heldInt64S_l0, marked_length, w64_succ h0 h1 (by omega), marked_get n i.toNat (by omega), q1, w64_id (by omega)]
    have e : (1 : Int) + (i.toNat : Int) = 1 + i := by omega
    rw [e]
    simp [h0, h1]
  · intro k i s h0 h1 ⟨q1, q2⟩
    refine ⟨_, ?_, rfl⟩
    show laws_heldInt64S_l0 (marked n) (k + 1) s i = _
    rw [laws_heldInt64S_l0, marked_length]
    have : ¬ i < (n : Int) := by omega
    have hi : i = n := by omega
    simp [this, q1, hi]

theorem held_nil (k : Nat) (hk : 1 ≤ k) : laws_heldInt64S k [] 1 = some 1 := held_eq k 0 hk (by omega)

theorem mark_nil (k : Nat) (hk : 1 ≤ k) : laws_markInt64S_d0 k [] 1 = some 1 := by
  unfold laws_markInt64S_d0
  obtain ⟨k, rfl⟩ : ∃ k', k = k' + 1 := ⟨k - 1, by omega⟩
  rw [laws_markInt64S_d0_l0]; simp

theorem mem_getD {l : List Int} {x : Int} : x ∈ l ↔ ∃ a, a < l.length ∧ l.getD a 0 = x := by
  constructor
  · intro h
    obtain ⟨a, ha, e⟩ := List.getElem_of_mem h
    exact ⟨a, ha, by simp [List.getD, ha, e]⟩
  · rintro ⟨a, ha, rfl⟩
    simp [List.getD, ha]

end Go.Proofs.YtmmiokljmfkoiaaDoor
