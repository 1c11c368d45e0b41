/- Plain laws: cliques that are counted. No conditions beyond those that each lemma states. -/
import Derived.Test.YtfoijbdnkkaceaaPureClq20
set_option linter.unusedVariables false
set_option linter.unusedSimpArgs false
namespace Go.Proofs.Ytfoijbdnkkaceaa
open Go Go.RowKit Ab

theorem mem_acl_len (x : Col) (hp : 1 ≤ x.p ∧ x.p ≤ 17) (c : Int) (l : List Int) (h : l ∈ acl x c) : l.length ≤ 17 := by
  have := ((mem_ac (aB x c) (pts x) l).1 h).1.length_le
  unfold pts at this
  rw [ir_length] at this; omega
theorem acl_filter (x : Col) (c : Int) (m : Nat) : (acl x c).filter (fun l => decide (l.length = m)) = cl (aB x c) m (pts x) := ac_filter _ _ _

theorem run_count (so : List Int → Option Bool) (S : List Int → Bool) (m : Int) : ∀ (Ls : List (List Int)) (s : Int), (∀ l ∈ Ls, so l = some (S l)) → 0 ≤ s → s + Ls.length < 4611686018427387904 →
    runL (fun l s => impl_Colouring_countThat_c1 l m so s) Ls s = some (true, s + (Ls.countP fun l => decide ((l.length : Int) = m) && S l : Nat))
  | [], s, _, _, _ => by simp [runL]
  | a :: t, s, h, h0, h1 => by
    have ih := run_count so S m t
    have hs := h a (List.mem_cons_self ..)
    have ht : ∀ l ∈ t, so l = some (S l) := fun l hl => h l (List.mem_cons_of_mem _ hl)
    simp only [List.length_cons] at h1
    have e : impl_Colouring_countThat_c1 a m so s = some (true, if (decide ((a.length : Int) = m) && S a) = true then s + 1 else s) := by
      unfold impl_Colouring_countThat_c1 impl_size
      rw [hs, w64_id (by omega)]
      by_cases q : (a.length : Int) = m
      · cases S a <;> simp [q]
      · simp [q]
    rw [runL, e]
    simp only [Option.bind_some, if_true, List.countP_cons]
    by_cases q : (decide ((a.length : Int) = m) && S a) = true
    · rw [if_pos q, if_pos q, ih (s + 1) ht (by omega) (by omega)]
      congr 2; omega
    · rw [if_neg q, if_neg q, ih s ht h0 (by omega)]
      congr 2

theorem count_eq {k : Nat} (hk : 5000 ≤ k) (x : Col) (hp : 1 ≤ x.p ∧ x.p ≤ 17) (c m : Int) (so : List Int → Option Bool) (S : List Int → Bool) (hs : ∀ l ∈ acl x c, so l = some (S l)) :
    impl_Colouring_countThat k x c m so = some (((acl x c).countP fun l => decide ((l.length : Int) = m) && S l : Nat) : Int) := by
  unfold impl_Colouring_countThat
  have := clq_all x hp c (fun l s => impl_Colouring_countThat_c1 l m so s) (fun k l s => impl_Colouring_cliques_on_countThat_c1 k x c l m so s) (fun k l k0 q s => impl_Colouring_cliques_on_countThat_c1_l0 k (impl_Colouring_cliques_on_countThat_c1 k) x c l m so k0 q s)
    (fun k l s _ => by
      show impl_Colouring_cliques_on_countThat_c1 (k + 1) x c l m so s = _
      rw [impl_Colouring_cliques_on_countThat_c1, impl_Colouring_cliques_on_countThat_c1_body]
      congr 1; funext r; congr 1; congr 1; funext f; congr 1; funext os; cases os <;> rfl) (fun k l k0 q s hl => by
      rw [impl_Colouring_cliques_on_countThat_c1_l0]
      by_cases hq : q < x.p
      · simp only [hq, decide_true, if_true]
        cases impl_Colouring_goesWith k x c l q with
        | none => rfl
        | some g =>
          cases g with
          | false => simp
          | true =>
            have hl1 : l.length ≤ 1099511627776 := by omega
            have hl2 : l.length + 1 ≤ 1099511627776 := by omega
            cases l with
            | nil => 
              simp only [Option.bind_some, if_true, List.isEmpty_nil, List.length_cons, List.length_nil, List.nil_append]
              cases impl_Colouring_cliques_on_countThat_c1 k x c [q] m so s with
              | none => rfl
              | some r => cases h : r.1 <;> simp [h]
            | cons a t =>
              simp only [Option.bind_some, if_true, List.isEmpty_cons, Bool.false_eq_true, if_false, cloneA, hl1, List.length_singleton, hl2]
              cases impl_Colouring_cliques_on_countThat_c1 k x c ((a :: t) ++ [q]) m so s with
              | none => rfl
              | some r => cases h : r.1 <;> simp [h]
      · simp [hq]) k (by omega) 0
  rw [show impl_Colouring_cliques_on_countThat_c1 k x c [] m so 0 = _ from this, run_count so S m (acl x c) 0 hs (by omega) (by have := acl_len x hp c; omega)]
  simp
end Go.Proofs.Ytfoijbdnkkaceaa
