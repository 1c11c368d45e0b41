/- Plain laws that positions need: lists. (Collected out of the own texts PureBase, PureMark and PurePerm.) No conditions beyond those that each lemma states. -/
import Derived.Test.YtmmiokljmfkoiaaDoorPKit
import Derived.Test.YtmmiokljmfkoiaaDoorGen10
set_option linter.unusedVariables false
set_option linter.unusedSimpArgs false
namespace Go.Proofs.YtmmiokljmfkoiaaDoor
open Go Go.RowKit Ab

theorem in_eq (a b c : Int) : impl_in a b c = decide (b ≤ a ∧ a ≤ c) := by
  unfold impl_in letO
  by_cases h : b ≤ a <;> by_cases h' : a ≤ c <;> simp [h, h']

theorem specIn_eq (a b c : Int) : spec_l01In a b c = decide (b ≤ a ∧ a ≤ c) := by
  unfold spec_l01In letO
  by_cases h : b ≤ a <;> by_cases h' : a ≤ c <;> simp [h, h']

theorem number_eq (i j : Int) (hi : 0 ≤ i ∧ i < 17) (hj : 0 ≤ j ∧ j < 17) : impl_number i j = (eN i.toNat j.toNat : Int) := by
  have : ∀ i, i < 17 → ∀ j, j < 17 → impl_number (i : Nat) (j : Nat) = (eN i j : Int) := by decide +kernel
  have h := this i.toNat (by omega) j.toNat (by omega)
  rwa [Int.toNat_of_nonneg hi.1, Int.toNat_of_nonneg hj.1] at h

theorem edge_eq (i j : Int) (hi : 0 ≤ i ∧ i < 17) (hj : 0 ≤ j ∧ j < 17) : spec_l01Edge i j = (eN i.toNat j.toNat : Int) := by
  have : ∀ i, i < 17 → ∀ j, j < 17 → spec_l01Edge (i : Nat) (j : Nat) = (eN i j : Int) := by decide +kernel
  have h := this i.toNat (by omega) j.toNat (by omega)
  rwa [Int.toNat_of_nonneg hi.1, Int.toNat_of_nonneg hj.1] at h

theorem toInt64S_eq (k : Nat) (l : List Int) (h : l.length + 1 ≤ k) (hl : (l.length : Int) ≤ 1099511627776) : laws_toInt64S k l = some l := by
  unfold laws_toInt64S
  rw [if_pos ⟨by omega, by omega, hl⟩]
  have := loopI (f := fun k i s => laws_toInt64S_l0 l k i s) (l.length : Int) 0 (fun i (s : List Int) => s.length = l.length ∧ ∀ j : Nat, (j : Int) < i → s.getD j 0 = l.getD j 0) (fun y => y = l) ?_ ?_ k 0 (List.replicate (l.length : Int).toNat 0) (by omega) (by omega) ⟨by simp, fun j hj => by omega⟩
  · obtain ⟨r, e, rfl⟩ := this
    rw [e]; rfl
  · intro k i s h0 h1 ⟨q1, q2⟩
    left
    refine ⟨s.set i.toNat (l.getD i.toNat 0), ?_, by simp [q1], ?_⟩
    · show laws_toInt64S_l0 l (k + 1) i s = _
      rw [laws_toInt64S_l0, w64_succ h0 h1 (by omega)]
      have : i < (s.length : Int) := by omega
      simp [h0, h1, this]
    · intro j hj
      by_cases e : i.toNat = j
      · subst e
        simp [List.getD, List.getElem?_set, show i.toNat < s.length by omega]
      · have := q2 j (by omega)
        simp only [List.getD] at this ⊢
        rw [List.getElem?_set_ne e, this]
  · intro k i s h0 h1 ⟨q1, q2⟩
    refine ⟨s, ?_, ?_⟩
    · show laws_toInt64S_l0 l (k + 1) i s = _
      rw [laws_toInt64S_l0]
      have : ¬ i < (l.length : Int) := by omega
      simp [this]
    · refine List.ext_getElem q1 fun j hj hj' => ?_
      have := q2 j (by omega)
      simpa [List.getD, hj, hj'] using this

theorem eqInts_refl (k : Nat) (x : List Int) (h : x.length + 1 ≤ k) (hx : (x.length : Int) ≤ 1099511627776) : laws_eqInt64S k x x = some true := by
  unfold laws_eqInt64S
  have := loopAll (f := fun k' i => laws_eqInt64S_l0 x x k' i) (x.length : Int) false (fun _ => True) 0
    (fun k' i h0 h1 _ => by
      show laws_eqInt64S_l0 x x (k' + 1) i = _
      rw [laws_eqInt64S_l0, w64_succ h0 h1 (by omega)]
      simp [h0, h1])
    (fun k' i h0 h1 hq => (hq trivial).elim)
    (fun k' i h1 => by
      show laws_eqInt64S_l0 x x (k' + 1) i = _
      rw [laws_eqInt64S_l0]
      have : ¬ i < (x.length : Int) := by omega
      simp [this]) k 0 (by omega) (by omega)
  rw [this]; simp

theorem mem_getD {l : List Int} {x : Int} : x ∈ l ↔ ∃ a, a < l.length ∧ l.getD a 0 = x := by
  constructor
  · intro h
    obtain ⟨a, ha, e⟩ := List.getElem_of_mem h
    exact ⟨a, ha, by simp [List.getD, ha, e]⟩
  · rintro ⟨a, ha, rfl⟩
    simp [List.getD, ha]

end Go.Proofs.YtmmiokljmfkoiaaDoor
