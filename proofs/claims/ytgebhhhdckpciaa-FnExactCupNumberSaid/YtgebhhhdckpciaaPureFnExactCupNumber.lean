/- For all numbers a and b the program's CupNumber and the reference's return the same two numbers. No conditions. -/
import Derived.Test.YtgebhhhdckpciaaPFnExactCupNumberx1
namespace Go.Proofs.Ytgebhhhdckpciaa.Pure
open Go.RowKit Go.Proofs.Ytgebhhhdckpciaa.PFnExactCupNumber Go.Proofs.YtgebhhhdckpciaaW.PrintWords Go.Proofs.YtgebhhhdckpciaaW.PrintLast

theorem loopEq : ∀ (k : Nat) (n m x i : Int), spec_l08Choose.l0 k n m x i = impl_binomial.l0 k n x m i
  | 0, _, _, _, _ => rfl
  | k + 1, n, m, x, i => by
    simp only [spec_l08Choose.l0, impl_binomial.l0]
    rw [loopEq k]

theorem chooseEq (k : Nat) (n m : Int) : spec_l08Choose.f k n m = impl_binomial.f k n m := loopEq k n m 1 0

theorem loopEnds (d : Nat) : ∀ (k : Nat) (n m x i : Int), 0 ≤ i → m ≤ 1000 → (m - i).toNat ≤ d → d < k → ∃ r, impl_binomial.l0 k n x m i = some r := by
  induction d with
  | zero =>
    intro k n m x i h0 h1 hd hk
    obtain ⟨k, rfl⟩ : ∃ j, k = j + 1 := ⟨k - 1, by omega⟩
    exact ⟨x, by simp only [impl_binomial.l0]; rw [if_neg (by omega)]⟩
  | succ d ih =>
    intro k n m x i h0 h1 hd hk
    obtain ⟨k, rfl⟩ : ∃ j, k = j + 1 := ⟨k - 1, by omega⟩
    by_cases hlt : i < m
    · have hw : wrap64 (i + 1) = i + 1 := by unfold wrap64; omega
      simp only [impl_binomial.l0]
      rw [if_pos hlt, hw, if_neg (by omega)]
      exact ih k n m _ (i + 1) (by omega) h1 (by omega) (by omega)
    · exact ⟨x, by simp only [impl_binomial.l0]; rw [if_neg hlt]⟩

theorem bothEq (k : Nat) (a b : Int) : spec_CupNumber.f k a b = impl_CupNumber.f k a b := by
  unfold spec_CupNumber.f impl_CupNumber.f
  simp only [chooseEq]
  rfl

theorem some_of (a b : Int) : ∃ r, impl_CupNumber.f 100 a b = some r := by
  unfold impl_CupNumber.f impl_in.f
  by_cases h1 : a ≥ 2
  · by_cases h2 : a ≤ 16
    · by_cases h3 : b ≥ 2
      · by_cases h4 : b ≤ 16
        · have hw : wrap64 (a - 2) = a - 2 := by unfold wrap64; omega
          obtain ⟨r, hr⟩ := loopEnds 50 100 (wrap64 (wrap64 (a + b) - 4)) (wrap64 (a - 2)) 1 0 (by omega) (by omega) (by omega) (by omega)
          have hr' : impl_binomial.f 100 (wrap64 (wrap64 (a + b) - 4)) (wrap64 (a - 2)) = some r := hr
          exact ⟨_, by simp [h1, h2, h3, h4, hr']; rfl⟩
        · exact ⟨(0, 2), by simp [h1, h2, h3, h4]⟩
      · exact ⟨(0, 2), by simp [h1, h2, h3]⟩
    · exact ⟨(0, 2), by simp [h1, h2]⟩
  · exact ⟨(0, 2), by simp [h1]⟩

theorem FnExactCupNumber : laws_FnExactCupNumber.Pure := by
  intro a b _ _
  obtain ⟨r, hr⟩ := some_of a b
  refine ⟨100, ?_⟩
  unfold laws_FnExactCupNumber.f
  rw [bothEq, hr]
  simp

end Go.Proofs.Ytgebhhhdckpciaa.Pure
