/- Plain laws: what the functions of cliques answer. No conditions beyond those that each lemma states. -/
import Derived.Test.YtfoijbdnkkaceaaPureClqG18
import Derived.Test.YtfoijbdnkkaceaaPureClqS18
set_option linter.unusedVariables false
set_option linter.unusedSimpArgs false
namespace Go.Proofs.Ytfoijbdnkkaceaa
open Go Go.RowKit Ab

theorem code_cases {k : Nat} (hk : 5000 ≤ k) (x : Col) : (x.is → impl_Colouring_code k x (some true) = some 0 ∧ impl_Colouring_code k x (some false) = some 2) ∧ (¬ x.is → ∀ b, impl_Colouring_code k x (some b) = some 1) := by
  unfold impl_Colouring_code
  rw [isColouring_eq k (by omega)]
  constructor
  · intro h; simp [h]
  · intro h b; simp [h]
theorem given_cases {k : Nat} (hk : 5000 ≤ k) (x : Col) (c : Int) : (x.is → 0 ≤ c ∧ c ≤ x.k - 1 → spec_l01Given k x c [] = some 0) ∧ (x.is → ¬ (0 ≤ c ∧ c ≤ x.k - 1) → spec_l01Given k x c [] = some 2) ∧ (¬ x.is → spec_l01Given k x c [] = some 1) := by
  classical
  have hin : inP x [] := fun i h0 h1 => by simp at h1; omega
  have hg := specGiven_eq k x c [] (by simp; omega) (by simp)
  refine ⟨fun h hc => ?_, fun h hc => ?_, fun h => ?_⟩
  · rw [if_pos h, if_pos ⟨hc, hin⟩] at hg; exact hg
  · rw [if_pos h, if_neg (fun q => hc q.1)] at hg; exact hg
  · rw [if_neg h] at hg; exact hg
theorem hasColour_val {x : Col} (h : x.is) (c : Int) : impl_Colouring_hasColour x c = decide (0 ≤ c ∧ c ≤ x.k - 1) := by
  unfold impl_Colouring_hasColour
  have := h.2.1
  rw [in_eq, w64_id (by omega)]
theorem has_val {x : Col} (h : x.is) (p : Int) : impl_Colouring_has x p = decide (0 ≤ p ∧ p ≤ x.p - 1) := by
  unfold impl_Colouring_has
  have := h.1
  rw [in_eq, w64_id (by omega)]

theorem acl_flt (x : Col) (c : Int) (m : Nat) : (acl x c).filter (fun l => decide ((l.length : Int) = (m : Int))) = cl (aB x c) m (pts x) := by
  rw [← acl_filter]
  apply List.filter_congr
  intro l _
  by_cases h : l.length = m
  · simp [h]
  · have : ¬ (l.length : Int) = m := by omega
    simp [h, this]

theorem cliqueList_val {k : Nat} (hk : 5000 ≤ k) (x : Col) (c m : Int) :
    (∃ e, e ≠ 0 ∧ impl_CliqueList k x c m = some (none, e) ∧ spec_CliqueList k x c m = some ([], e)) ∨
    (x.is ∧ (0 ≤ c ∧ c ≤ x.k - 1) ∧ ∃ n : Nat, m = n ∧ (1 ≤ n ∧ n ≤ 17) ∧ impl_CliqueList k x c m = some (some (cl (aB x c) n (pts x)), 0) ∧ spec_CliqueList k x c m = some (cl (aB x c) n (pts x), 0) ∧ (cl (aB x c) n (pts x)).length ≤ 200) := by
  obtain ⟨c1, c2⟩ := code_cases hk x
  obtain ⟨g1, g2, g3⟩ := given_cases hk x c
  unfold impl_CliqueList spec_CliqueList
  by_cases h : x.is
  · have hcol := hasColour_val h c
    by_cases hc : 0 ≤ c ∧ c ≤ x.k - 1
    · by_cases hm : 1 ≤ m ∧ m ≤ 17
      · obtain ⟨n, rfl⟩ := nat_of (show 0 ≤ m by omega)
        have hc1 : impl_CliqueList_c1 x c n = true := by
          unfold impl_CliqueList_c1 letO
          rw [hcol, in_eq, decide_eq_true hc, decide_eq_true hm]; rfl
        have hs : spec_l01In (n : Int) 1 17 = true := by rw [specIn_eq, decide_eq_true hm]
        have hl := list_eq hk x h.1 c (fun a0 => some (impl_CliqueList_c2 a0 n)) (fun l => decide ((l.length : Int) = (n : Int))) (fun l _ => rfl)
        rw [acl_flt] at hl
        have hsp := spec_list x h.1 c hk n 201 (by omega) (by omega) (by omega)
        rw [hc1, (c1 h).1, g1 h hc]
        simp only [Option.bind_some, decide_true, Bool.not_true, Bool.false_eq_true, if_false, if_true, hs, letO, hl]
        rw [show ((201 : Int)) = ((201 : Nat) : Int) from rfl, hsp]
        simp only [Option.bind_some]
        by_cases hlen : (cl (aB x c) n (pts x)).length ≤ 200
        · right
          refine ⟨h, hc, n, rfl, by omega, ?_, ?_, hlen⟩
          · rw [if_pos hlen]
          · rw [List.take_of_length_le (by omega)]
            have : ¬ (200 : Int) < ((cl (aB x c) n (pts x)).length : Int) := by omega
            simp [this]
        · left
          refine ⟨3, by decide, ?_, ?_⟩
          · rw [if_neg hlen]
          · have : (200 : Int) < (((cl (aB x c) n (pts x)).take 201).length : Int) := by rw [List.length_take]; omega
            simp only [this, decide_true, if_true]
      · left
        have hc1 : impl_CliqueList_c1 x c m = false := by
          unfold impl_CliqueList_c1 letO
          rw [hcol, in_eq, decide_eq_true hc, decide_eq_false hm]; rfl
        have hs : spec_l01In m 1 17 = false := by rw [specIn_eq, decide_eq_false hm]
        rw [hc1, (c1 h).2, g1 h hc, hs]
        exact ⟨2, by decide, by simp, by simp [letO]⟩
    · left
      have hc1 : impl_CliqueList_c1 x c m = false := by
        unfold impl_CliqueList_c1 letO
        rw [hcol, decide_eq_false hc]; rfl
      rw [hc1, (c1 h).2, g2 h hc]
      exact ⟨2, by decide, by simp, by simp [letO]⟩
  · left
    rw [c2 h, g3 h]
    exact ⟨1, by decide, by simp, by simp [letO]⟩

theorem cl_count (x : Col) (c : Int) (m : Nat) : ((acl x c).countP fun l => decide ((l.length : Int) = (m : Int)) && true) = (cl (aB x c) m (pts x)).length := by
  rw [← acl_flt, List.countP_eq_length_filter]
  congr 1
  apply List.filter_congr
  intro l _; simp

theorem countCliques_val {k : Nat} (hk : 5000 ≤ k) (x : Col) (c m : Int) :
    (∃ e, e ≠ 0 ∧ impl_CountCliques k x c m = some (0, e) ∧ spec_CountCliques k x c m = some (0, e) ∧ ¬ (x.is ∧ (0 ≤ c ∧ c ≤ x.k - 1) ∧ 0 ≤ m ∧ m ≤ 17)) ∨
    (x.is ∧ (0 ≤ c ∧ c ≤ x.k - 1) ∧ ∃ n : Nat, m = n ∧ n ≤ 17 ∧ impl_CountCliques k x c m = some (((cl (aB x c) n (pts x)).length : Int), 0) ∧ spec_CountCliques k x c m = some (((cl (aB x c) n (pts x)).length : Int), 0)) := by
  obtain ⟨c1, c2⟩ := code_cases hk x
  obtain ⟨g1, g2, g3⟩ := given_cases hk x c
  unfold impl_CountCliques spec_CountCliques
  by_cases h : x.is
  · have hcol := hasColour_val h c
    by_cases hc : 0 ≤ c ∧ c ≤ x.k - 1
    · by_cases hm : 0 ≤ m ∧ m ≤ 17
      · obtain ⟨n, rfl⟩ := nat_of (show 0 ≤ m by omega)
        right
        refine ⟨h, hc, n, rfl, by omega, ?_, ?_⟩
        · have hc1 : impl_CountCliques_c1 x c n = true := by
            unfold impl_CountCliques_c1 letO
            rw [hcol, in_eq, decide_eq_true hc, decide_eq_true hm]; rfl
          rw [hc1, (c1 h).1, count_eq hk x h.1 c n (fun a0 => some (impl_anyList a0)) (fun _ => true) (fun l _ => rfl), cl_count]
          simp
        · have hs : spec_l01In (n : Int) 0 17 = true := by rw [specIn_eq, decide_eq_true hm]
          obtain ⟨w1, w2, w3⟩ := whole_bits x h.1
          rw [g1 h hc]
          simp only [Option.bind_some, decide_true, Bool.not_true, Bool.false_eq_true, if_false, if_true, hs, letO, if_pos w3, w1]
          rw [rows_val hk x h.1 c]
          simp only [Option.bind_some]
          rw [spec_count x h.1 c n (2 ^ x.p.toNat - 1) k w2 (by omega), mem_all]
          rfl
      · left
        have hc1 : impl_CountCliques_c1 x c m = false := by
          unfold impl_CountCliques_c1 letO
          rw [hcol, in_eq, decide_eq_true hc, decide_eq_false hm]; rfl
        have hs : spec_l01In m 0 17 = false := by rw [specIn_eq, decide_eq_false hm]
        rw [hc1, (c1 h).2, g1 h hc, hs]
        exact ⟨2, by decide, by simp, by simp [letO], fun q => hm q.2.2⟩
    · left
      have hc1 : impl_CountCliques_c1 x c m = false := by
        unfold impl_CountCliques_c1 letO
        rw [hcol, decide_eq_false hc]; rfl
      rw [hc1, (c1 h).2, g2 h hc]
      exact ⟨2, by decide, by simp, by simp [letO], fun q => hc q.2.1⟩
  · left
    rw [c2 h, g3 h]
    exact ⟨1, by decide, by simp, by simp [letO], fun q => h q.1⟩
end Go.Proofs.Ytfoijbdnkkaceaa
