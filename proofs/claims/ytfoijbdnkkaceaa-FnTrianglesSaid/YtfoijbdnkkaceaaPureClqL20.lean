/- Plain laws: cliques that are listed. No conditions beyond those that each lemma states. -/
import Derived.Test.YtfoijbdnkkaceaaPureClqC20
set_option linter.unusedVariables false
set_option linter.unusedSimpArgs false
namespace Go.Proofs.Ytfoijbdnkkaceaa
open Go Go.RowKit Ab

theorem run_list (so : List Int → Option Bool) (S : List Int → Bool) : ∀ (Ls s : List (List Int)), (∀ l ∈ Ls, so l = some (S l)) → s.length ≤ 200 →
    if (s ++ Ls.filter S).length ≤ 200 then runL (fun l s => impl_Colouring_listThat_c1 l so s) Ls s = some (true, s ++ Ls.filter S) else ∃ z, runL (fun l s => impl_Colouring_listThat_c1 l so s) Ls s = some (false, z)
  | [], s, _, h => by simp [runL, h]
  | a :: t, s, h, hl => by
    have hs := h a (List.mem_cons_self ..)
    have ht : ∀ l ∈ t, so l = some (S l) := fun l hl => h l (List.mem_cons_of_mem _ hl)
    rw [runL]
    unfold impl_Colouring_listThat_c1
    rw [hs]
    simp only [Option.bind_some]
    cases q : S a with
    | false =>
      have e : (a :: t).filter S = t.filter S := by rw [List.filter_cons, q]; simp
      have ih := run_list so S t s ht hl
      have hd : decide ((s.length : Int) ≤ 200) = true := by rw [decide_eq_true_iff]; omega
      rw [e]
      simp only [Bool.false_eq_true, if_false, Option.bind_some, hd, if_true]
      exact ih
    | true =>
      have e : (a :: t).filter S = a :: t.filter S := by rw [List.filter_cons, q]; simp
      have hlen : s.length + ([a]).length ≤ 1099511627776 := by simp; omega
      rw [e]
      simp only [if_true, if_pos hlen, Option.bind_some]
      by_cases hf : s.length + 1 ≤ 200
      · have hd : decide (((s ++ [a]).length : Int) ≤ 200) = true := by rw [decide_eq_true_iff]; simp; omega
        have ih := run_list so S t (s ++ [a]) ht (by simp; omega)
        rw [hd]
        simp only [if_true]
        rw [List.append_assoc] at ih
        exact ih
      · have hd : decide (((s ++ [a]).length : Int) ≤ 200) = false := by rw [decide_eq_false_iff_not]; simp; omega
        rw [if_neg (by simp; omega), hd]
        exact ⟨s ++ [a], by simp⟩

theorem list_eq {k : Nat} (hk : 5000 ≤ k) (x : Col) (hp : 1 ≤ x.p ∧ x.p ≤ 17) (c : Int) (so : List Int → Option Bool) (S : List Int → Bool) (hs : ∀ l ∈ acl x c, so l = some (S l)) :
    impl_Colouring_listThat k x c so = some (if ((acl x c).filter S).length ≤ 200 then (some ((acl x c).filter S), 0) else (none, 3)) := by
  unfold impl_Colouring_listThat
  have := clq_all x hp c (fun l s => impl_Colouring_listThat_c1 l so s) (fun k l s => impl_Colouring_cliques_on_listThat_c1 k x c l so s) (fun k l k0 q s => impl_Colouring_cliques_on_listThat_c1_l0 k (impl_Colouring_cliques_on_listThat_c1 k) x c l so k0 q s)
    (fun k l s _ => by
      show impl_Colouring_cliques_on_listThat_c1 (k + 1) x c l so s = _
      rw [impl_Colouring_cliques_on_listThat_c1, impl_Colouring_cliques_on_listThat_c1_body]
      congr 1; funext r; congr 1; congr 1; funext f; congr 1; funext os; cases os <;> rfl) (fun k l k0 q s hl => by
      rw [impl_Colouring_cliques_on_listThat_c1_l0]
      by_cases hq : q < x.p
      · simp only [hq, decide_true, if_true]
        cases impl_Colouring_goesWith k x c l q with
        | none => rfl
        | some g =>
          cases g with
          | false => simp
          | true =>
            have hl1 : l.length ≤ 1099511627776 := by omega
            have hl2 : l.length + 1 ≤ 1099511627776 := by omega
            cases l with
            | nil => 
              simp only [Option.bind_some, if_true, List.isEmpty_nil, List.length_cons, List.length_nil, List.nil_append]
              cases impl_Colouring_cliques_on_listThat_c1 k x c [q] so s with
              | none => rfl
              | some r => cases h : r.1 <;> simp [h]
            | cons a t =>
              simp only [Option.bind_some, if_true, List.isEmpty_cons, Bool.false_eq_true, if_false, cloneA, hl1, List.length_singleton, hl2]
              cases impl_Colouring_cliques_on_listThat_c1 k x c ((a :: t) ++ [q]) so s with
              | none => rfl
              | some r => cases h : r.1 <;> simp [h]
      · simp [hq]) k (by omega) []
  have hrun := run_list so S (acl x c) [] hs (by simp)
  rw [show impl_Colouring_cliques_on_listThat_c1 k x c [] so [] = _ from this]
  rw [List.nil_append] at hrun
  by_cases h : ((acl x c).filter S).length ≤ 200
  · rw [if_pos h] at hrun ⊢
    rw [hrun]; rfl
  · rw [if_neg h] at hrun ⊢
    obtain ⟨z, hz⟩ := hrun
    rw [hz]; rfl
end Go.Proofs.Ytfoijbdnkkaceaa
