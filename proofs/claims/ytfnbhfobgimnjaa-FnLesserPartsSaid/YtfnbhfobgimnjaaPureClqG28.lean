/- Plain laws: the greatest clique. No conditions beyond those that each lemma states. -/
import Derived.Test.YtfnbhfobgimnjaaPureClq28
set_option linter.unusedVariables false
set_option linter.unusedSimpArgs false
namespace Go.Proofs.Ytfnbhfobgimnjaa
open Go Go.RowKit Ab

theorem run_grt : ∀ (Ls : List (List Int)) (s : List Int), runL (fun l s => some (impl_Colouring_greatest_c1 l s)) Ls s = some (true, grt Ls s)
  | [], s => rfl
  | a :: t, s => by
    rw [runL]
    simp only [Option.bind_some]
    have e : impl_Colouring_greatest_c1 a s = (true, if s.length < a.length then a else s) := by
      unfold impl_Colouring_greatest_c1 letO
      by_cases h : s.length < a.length
      · have : (s.length : Int) < a.length := by omega
        simp [h, this]
      · have : ¬ (s.length : Int) < a.length := by omega
        simp [h, this]
    rw [e]
    simp only [if_true]
    rw [run_grt t]; rfl

theorem greatest_eq {k : Nat} (hk : 5000 ≤ k) (x : Col) (hp : 1 ≤ x.p ∧ x.p ≤ 17) (c : Int) : impl_Colouring_greatest k x c = some (grt (acl x c) []) := by
  unfold impl_Colouring_greatest
  have := clq_all x hp c (fun l s => some (impl_Colouring_greatest_c1 l s)) (fun k l s => impl_Colouring_cliques_on_greatest_c1 k x c l s) (fun k l k0 q s => impl_Colouring_cliques_on_greatest_c1_l0 k (impl_Colouring_cliques_on_greatest_c1 k) x c l k0 q s)
    (fun k l s _ => by
      show impl_Colouring_cliques_on_greatest_c1 (k + 1) x c l s = _
      rw [impl_Colouring_cliques_on_greatest_c1, impl_Colouring_cliques_on_greatest_c1_body]
      simp only [Option.bind_some]
      congr 1; congr 1; funext f; congr 1; funext os; cases os <;> rfl) (fun k l k0 q s hl => by
      rw [impl_Colouring_cliques_on_greatest_c1_l0]
      by_cases hq : q < x.p
      · simp only [hq, decide_true, if_true]
        cases impl_Colouring_goesWith k x c l q with
        | none => rfl
        | some g =>
          cases g with
          | false => simp
          | true =>
            have hl1 : l.length ≤ 1099511627776 := by omega
            have hl2 : l.length + 1 ≤ 1099511627776 := by omega
            cases l with
            | nil => 
              simp only [Option.bind_some, if_true, List.isEmpty_nil, List.length_cons, List.length_nil, List.nil_append]
              cases impl_Colouring_cliques_on_greatest_c1 k x c [q] s with
              | none => rfl
              | some r => cases h : r.1 <;> simp [h]
            | cons a t =>
              simp only [Option.bind_some, if_true, List.isEmpty_cons, Bool.false_eq_true, if_false, cloneA, hl1, List.length_singleton, hl2]
              cases impl_Colouring_cliques_on_greatest_c1 k x c ((a :: t) ++ [q]) s with
              | none => rfl
              | some r => cases h : r.1 <;> simp [h]
      · simp [hq]) k (by omega) []
  rw [show impl_Colouring_cliques_on_greatest_c1 k x c [] [] = _ from this, run_grt]
  rfl
end Go.Proofs.Ytfnbhfobgimnjaa
