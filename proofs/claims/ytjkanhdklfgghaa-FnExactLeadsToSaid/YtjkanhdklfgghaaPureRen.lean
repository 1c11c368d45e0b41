/- The plain laws of FnExactRenumberPoints and FnExactLeadsTo: the program's answers are the reference's. No conditions beyond those that each lemma states. -/
import Derived.Test.YtjkanhdklfgghaaPurePerm
set_option linter.unusedVariables false
set_option linter.unusedSimpArgs false
namespace Go.Proofs.Ytjkanhdklfgghaa
open Go Go.RowKit Ab

open Classical in
theorem ren_same (x : Col) (l : List Int) (k : Nat) (hk : l.length + 200 ≤ k) (hl : (l.length : Int) ≤ 1099511627776) : ∃ r, spec_RenumberPoints k x l = some r ∧ impl_RenumberPoints k x l = some r := by
  unfold spec_RenumberPoints impl_RenumberPoints impl_Colouring_code impl_RenumberPoints_c1
  rw [specIs_eq k (by omega), isColouring_eq k (by omega)]
  by_cases hx : x.is
  · rw [specOrder_eq k l x.p (by omega) hl hx.1, implOrder_eq k l x.p (by omega) hl]
    by_cases ho : isOrd l x.p
    · rw [specRen_eq x l hx.1 ho k (by omega), implRen_eq x l hx.1 ho k (by omega)]
      exact ⟨(ren x l, 0), by simp [hx, ho], by simp [hx, ho]⟩
    · exact ⟨(⟨0, 0, B136.zero⟩, 2), by simp [hx, ho], by simp [hx, ho]⟩
  · exact ⟨(⟨0, 0, B136.zero⟩, 1), by simp [hx], by simp [hx]⟩

theorem ren_pure (x : Col) (l : List Int) : laws_FnExactRenumberPoints (l.length + 200) x l = some true := by
  unfold laws_FnExactRenumberPoints
  by_cases hb : (1048576 : Int) < (l.length : Int)
  · simp [hb]
  · obtain ⟨r, e1, e2⟩ := ren_same x l (l.length + 200) (Nat.le_refl _) (by omega)
    simp only [hb, decide_false, Bool.false_eq_true, if_false]
    rw [toColouring_eq _ (by omega), toInt64S_eq _ l (by omega) (by omega)]
    simp only [Option.bind_some, e1, e2]
    rw [eqCol_refl _ (by omega)]
    simp only [Option.bind_some, Bool.not_true, Bool.false_eq_true, if_false, decide_true]
    rw [eqInts_refl _ l (by omega) (by omega)]
    simp

open Classical in
theorem leads_same (x y : Col) (l : List Int) (k : Nat) (hk : l.length + 200 ≤ k) (hl : (l.length : Int) ≤ 1099511627776) : ∃ r, spec_LeadsTo k x y l = some r ∧ impl_LeadsTo k x y l = some r := by
  unfold spec_LeadsTo impl_LeadsTo
  rw [specIs_eq k (by omega), isColouring_eq k (by omega), specIs_eq k (by omega), isColouring_eq k (by omega)]
  by_cases hx : x.is
  · by_cases hy : y.is
    · rw [specOrder_eq k l x.p (by omega) hl hx.1, implOrder_eq k l x.p (by omega) hl]
      by_cases ho : isOrd l x.p
      · rw [specRen_eq x l hx.1 ho k (by omega), implRen_eq x l hx.1 ho k (by omega)]
        exact ⟨((ren x l).eqb y, 0), by simp [hx, hy, ho], by simp [hx, hy, ho]⟩
      · exact ⟨(false, 2), by simp [hx, hy, ho], by simp [hx, hy, ho]⟩
    · exact ⟨(false, 1), by simp [hx, hy], by simp [hx, hy]⟩
  · exact ⟨(false, 1), by simp [hx], by simp [hx]⟩

theorem leads_pure (x y : Col) (l : List Int) : laws_FnExactLeadsTo (l.length + 200) x y l = some true := by
  unfold laws_FnExactLeadsTo
  by_cases hb : (1048576 : Int) < (l.length : Int)
  · simp [hb]
  · obtain ⟨r, e1, e2⟩ := leads_same x y l (l.length + 200) (Nat.le_refl _) (by omega)
    simp only [hb, decide_false, Bool.false_eq_true, if_false]
    rw [toColouring_eq _ (by omega), toColouring_eq _ (by omega), toInt64S_eq _ l (by omega) (by omega)]
    simp only [Option.bind_some, e1, e2]
    simp only [Option.bind_some, letO, beq_self_eq_true, Bool.not_true, Bool.false_eq_true, if_false, decide_true]
    rw [eqInts_refl _ l (by omega) (by omega)]
    simp
end Go.Proofs.Ytjkanhdklfgghaa
