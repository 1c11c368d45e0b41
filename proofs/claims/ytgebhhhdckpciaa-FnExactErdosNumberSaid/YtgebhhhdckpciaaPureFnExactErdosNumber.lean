/- For all numbers a and b the program's ErdosNumber and the reference's return the same two numbers. No conditions. -/
import Derived.Test.YtgebhhhdckpciaaPFnExactErdosNumberx1
namespace Go.Proofs.Ytgebhhhdckpciaa.Pure
open Go.RowKit Go.Proofs.Ytgebhhhdckpciaa.PFnExactErdosNumber Go.Proofs.YtgebhhhdckpciaaW.PrintWords Go.Proofs.YtgebhhhdckpciaaW.PrintLast

theorem inEq (a b c : Int) : spec_l01In.f a b c = impl_in.f a b c := rfl

theorem bothEq (a b : Int) : spec_ErdosNumber.f a b = impl_ErdosNumber.f a b := by
  unfold spec_ErdosNumber.f impl_ErdosNumber.f impl_areThousand.f spec_l01In.f impl_in.f
  by_cases h1 : a ≥ 1 <;> by_cases h2 : a ≤ 1000 <;> by_cases h3 : b ≥ 1 <;> by_cases h4 : b ≤ 1000 <;> simp [h1, h2, h3, h4]

theorem some_of (a b : Int) : ∃ r, impl_ErdosNumber.f a b = some r := by
  unfold impl_ErdosNumber.f impl_areThousand.f impl_in.f
  by_cases h1 : a ≥ 1 <;> by_cases h2 : a ≤ 1000 <;> by_cases h3 : b ≥ 1 <;> by_cases h4 : b ≤ 1000 <;> simp [h1, h2, h3, h4]

theorem FnExactErdosNumber : laws_FnExactErdosNumber.Pure := by
  intro a b _ _
  obtain ⟨r, hr⟩ := some_of a b
  unfold laws_FnExactErdosNumber.f
  rw [bothEq, hr]
  simp

end Go.Proofs.Ytgebhhhdckpciaa.Pure
