/- Plain Lean for the laws: the greatest number of edges of a matching, point by point. No program in sight. No conditions beyond those that each lemma states. -/
import Derived.Test.YtghhnpdhehjlaaaClqB
set_option linter.unusedVariables false
set_option linter.unusedSimpArgs false
namespace Go.Proofs.Ytghhnpdhehjlaaa
open Go Go.RowKit Ab

/-- The greatest number of edges of a matching of a list of points. -/
def mu (A : Int → Int → Bool) : List Int → Nat
  | [] => 0
  | i :: t => t.foldl (fun b j => bif A i j then max b (mu A (t.filter fun z => !decide (z = j)) + 1) else b) (mu A t)
termination_by l => l.length
decreasing_by
  all_goals simp
  exact Nat.lt_succ_of_le (Nat.le_trans (List.length_filter_le _ _) (by simp))

theorem mu_nil (A : Int → Int → Bool) : mu A [] = 0 := by rw [mu]
def muF (A : Int → Int → Bool) (i : Int) (t : List Int) (b : Nat) (j : Int) : Nat := bif A i j then max b (mu A (t.filter fun z => !decide (z = j)) + 1) else b
theorem mu_cons (A : Int → Int → Bool) (i : Int) (t : List Int) : mu A (i :: t) = t.foldl (muF A i t) (mu A t) := by rw [mu]; rfl

theorem fold_max {α : Type} (F : Nat → α → Nat) (P : Nat → Prop) (h : ∀ b a, P b → P (F b a)) : ∀ (l : List α) (b : Nat), P b → P (l.foldl F b)
  | [], b, hb => hb
  | a :: l, b, hb => fold_max F P h l _ (h b a hb)

theorem mu_le (A : Int → Int → Bool) (l : List Int) : mu A l ≤ l.length := by
  refine len_ind (P := fun l => mu A l ≤ l.length) (fun l ih => ?_) l
  cases l with
  | nil => rw [mu_nil]; exact Nat.le_refl _
  | cons i t =>
    rw [mu_cons]
    have h0 := ih t (by simp)
    refine fold_max _ (fun b => b ≤ (i :: t).length) (fun b j hb => ?_) t _ (by simp; omega)
    unfold muF
    cases A i j
    · exact hb
    · have h1 := ih (t.filter fun z => !decide (z = j)) (by simp; exact Nat.lt_succ_of_le (List.length_filter_le _ _))
      have h2 := List.length_filter_le (fun z => !decide (z = j)) t
      simp only [cond_true, List.length_cons] at *
      omega

theorem mu_fold_ge (A : Int → Int → Bool) (i : Int) (t : List Int) : ∀ (l : List Int) (b : Nat), b ≤ l.foldl (muF A i t) b
  | [], b => Nat.le_refl _
  | j :: l, b => by
    refine Nat.le_trans ?_ (mu_fold_ge A i t l _)
    unfold muF
    cases A i j
    · exact Nat.le_refl _
    · exact Nat.le_max_left ..
theorem mu_fold_mem (A : Int → Int → Bool) (i : Int) (t : List Int) : ∀ (l : List Int) (b : Nat) (j : Int), j ∈ l → A i j = true → mu A (t.filter fun z => !decide (z = j)) + 1 ≤ l.foldl (muF A i t) b
  | j' :: l, b, j, h, ha => by
    rcases List.mem_cons.1 h with rfl | h
    · refine Nat.le_trans ?_ (mu_fold_ge A i t l _)
      unfold muF
      rw [ha]
      exact Nat.le_max_right ..
    · exact mu_fold_mem A i t l _ j h ha
theorem mu_fold_cases (A : Int → Int → Bool) (i : Int) (t : List Int) : ∀ (l : List Int) (b : Nat), l.foldl (muF A i t) b = b ∨ ∃ j ∈ l, A i j = true ∧ l.foldl (muF A i t) b = mu A (t.filter fun z => !decide (z = j)) + 1
  | [], b => .inl rfl
  | j :: l, b => by
    rcases mu_fold_cases A i t l (muF A i t b j) with h | ⟨j', hj, ha, h⟩
    · rw [List.foldl_cons, h]
      unfold muF
      cases e : A i j
      · exact .inl rfl
      · rw [cond_true]
        rcases Nat.le_total (mu A (t.filter fun z => !decide (z = j)) + 1) b with h1 | h1
        · exact .inl (Nat.max_eq_left h1)
        · exact .inr ⟨j, List.mem_cons_self .., e, Nat.max_eq_right h1⟩
    · exact .inr ⟨j', List.mem_cons_of_mem _ hj, ha, by rw [List.foldl_cons]; exact h⟩

theorem mu_tail (A : Int → Int → Bool) (i : Int) (t : List Int) : mu A t ≤ mu A (i :: t) := by
  rw [mu_cons]; exact mu_fold_ge A i t t _
theorem mu_edge (A : Int → Int → Bool) (i : Int) (t : List Int) {j : Int} (hj : j ∈ t) (ha : A i j = true) : mu A (t.filter fun z => !decide (z = j)) + 1 ≤ mu A (i :: t) := by
  rw [mu_cons]; exact mu_fold_mem A i t t _ j hj ha
theorem mu_cases (A : Int → Int → Bool) (i : Int) (t : List Int) : mu A (i :: t) = mu A t ∨ ∃ j ∈ t, A i j = true ∧ mu A (i :: t) = mu A (t.filter fun z => !decide (z = j)) + 1 := by
  rw [mu_cons]; exact mu_fold_cases A i t t _

/-- How many new entries a table gets. -/
def gB : Nat → Nat
  | 0 => 0
  | 1 => 1
  | d + 2 => 1 + gB (d + 1) + 17 * gB d
theorem gB_pos {d : Nat} (h : 0 < d) : gB d = 1 + gB (d - 1) + 17 * gB (d - 2) := by
  match d, h with
  | 1, _ => rfl
  | d + 2, _ => rfl
theorem gB_max : ∀ d, d ≤ 17 → gB d ≤ 1000000000000 := by decide

/-- So many times a bound. -/
def bdA : Nat → Nat
  | 0 => 0
  | n + 1 => bdA n + 1000000000000
def bdB : Nat → Nat
  | 0 => 0
  | n + 1 => bdB n + 30000000000000
theorem bdA_succ (n : Nat) : bdA (n + 1) = bdA n + 1000000000000 := rfl
theorem bdB_succ (n : Nat) : bdB (n + 1) = bdB n + 30000000000000 := rfl
theorem bdA_max : ∀ n, n ≤ 17 → bdA n ≤ 17000000000000 := by decide
theorem bdB_max : ∀ n, n ≤ 17 → bdB n ≤ 510000000000000 := by decide

/-! ### Bits -/
def off (s i : Nat) : Nat := s ^^^ 2 ^ i
theorem off_test {s i : Nat} (h : s.testBit i = true) (j : Nat) : (off s i).testBit j = (s.testBit j && !decide (j = i)) := by
  unfold off
  rw [Nat.testBit_xor, Nat.testBit_two_pow]
  by_cases e : i = j
  · subst e; simp [h]
  · have : ¬ j = i := fun h => e h.symm
    simp [e, this]
theorem off_lt {s i n : Nat} (h : s < 2 ^ n) (hi : i < n) : off s i < 2 ^ n := Nat.xor_lt_two_pow h (Nat.pow_lt_pow_right (by decide) hi)
theorem off_mem {s i p n : Nat} (h : s.testBit i = true) : mem (off s i) p n = (mem s p n).filter fun z => !decide (z = (i : Int)) := by
  refine mem_flt fun j _ _ => ?_
  rw [off_test h]
  congr 2
  by_cases e : j = i
  · subst e; simp
  · have : ¬ (j : Int) = i := by omega
    simp [e, this]
theorem mem_nil_zero {s n : Nat} (hs : s < 2 ^ n) (h : mem s 0 n = []) : s = 0 := by
  refine bits_eq fun i => ?_
  rw [Nat.zero_testBit]
  by_cases hi : i < n
  · refine Bool.eq_false_iff.2 fun hb => ?_
    have : (i : Int) ∈ mem s 0 n := mem_mem.2 ⟨⟨by omega, by omega⟩, by simpa using hb⟩
    rw [h] at this; cases this
  · exact Nat.testBit_lt_two_pow (Nat.lt_of_lt_of_le hs (Nat.pow_le_pow_right (by decide) (by omega)))
theorem mem_zero (n : Nat) : mem 0 0 n = [] := by
  unfold mem
  refine List.filter_eq_nil_iff.2 fun a _ => by simp
/-- The least point of a set. -/
theorem mem_first {s n : Nat} {i : Int} {t : List Int} (h : mem s 0 n = i :: t) : ∃ m : Nat, i = m ∧ m < n ∧ s.testBit m = true ∧ (∀ j, j < m → s.testBit j = false) ∧ t = mem s (m + 1) n := by
  have hi : i ∈ mem s 0 n := by rw [h]; exact List.mem_cons_self ..
  obtain ⟨⟨h1, h2⟩, h3⟩ := mem_mem.1 hi
  have e : i = (i.toNat : Nat) := by omega
  have hlow : ∀ j, j < i.toNat → s.testBit j = false := by
    intro j hj
    refine Bool.eq_false_iff.2 fun hb => ?_
    have hj' : (j : Int) ∈ mem s 0 n := mem_mem.2 ⟨⟨by omega, by omega⟩, by simpa using hb⟩
    have hp : (mem s 0 n).Pairwise (· < ·) := (ir_pw 0 n).filter _
    rw [h] at hj' hp
    rcases List.mem_cons.1 hj' with hj' | hj'
    · omega
    · have := (List.pairwise_cons.1 hp).1 _ hj'; omega
  refine ⟨i.toNat, e, by omega, h3, hlow, ?_⟩
  have h4 := mem_low (n := n) hlow
  rw [mem_yes (by omega) h3] at h4
  rw [h] at h4
  exact (List.cons.inj h4).2
theorem mem_off_first {s n m : Nat} (hm : m < n) (hb : s.testBit m = true) (hlow : ∀ j, j < m → s.testBit j = false) : mem (off s m) 0 n = mem s (m + 1) n ∧ mem (off s m) (m + 1) n = mem s (m + 1) n := by
  have h2 : mem (off s m) (m + 1) n = mem s (m + 1) n := mem_congr fun i h1 h2 => by
    rw [off_test hb]
    have : ¬ i = m := by omega
    simp [this]
  refine ⟨?_, h2⟩
  rw [← h2]
  refine mem_low fun i hi => ?_
  rw [off_test hb]
  by_cases e : i = m
  · simp [e]
  · rw [hlow i (by omega)]; rfl
theorem mem_pw (s p n : Nat) : (mem s p n).Pairwise (· < ·) := (ir_pw p n).filter _
theorem mem_nodup (s p n : Nat) : (mem s p n).Nodup := (mem_pw s p n).imp fun h => by omega
theorem filter_ne_length {l : List Int} (hn : l.Nodup) {j : Int} (hj : j ∈ l) : (l.filter fun z => !decide (z = j)).length = l.length - 1 := by
  have e : (l.filter fun z => !decide (z = j)) = l.erase j := by
    rw [hn.erase_eq_filter]
    refine List.filter_congr fun z _ => ?_
    by_cases h : z = j <;> simp [h]
  rw [e, List.length_erase_of_mem hj]

/-- The first greatest matching. -/
def mlP (A : Int → Int → Bool) (i : Int) (t : List Int) (j : Int) : Bool := A i j && decide (mu A (t.filter fun z => !decide (z = j)) + 1 = mu A (i :: t))
def ml (A : Int → Int → Bool) : List Int → List (List Int)
  | [] => []
  | i :: t => match t.find? (mlP A i t) with
    | some j => [i, j] :: ml A (t.filter fun z => !decide (z = j))
    | none => ml A t
termination_by l => l.length
decreasing_by
  all_goals simp
  exact Nat.lt_succ_of_le (Nat.le_trans (List.length_filter_le _ _) (by simp))
theorem ml_nil (A : Int → Int → Bool) : ml A [] = [] := by rw [ml]
theorem ml_some {A : Int → Int → Bool} {i : Int} {t : List Int} {j : Int} (h : t.find? (mlP A i t) = some j) : ml A (i :: t) = [i, j] :: ml A (t.filter fun z => !decide (z = j)) := by rw [ml, h]
theorem ml_none {A : Int → Int → Bool} {i : Int} {t : List Int} (h : t.find? (mlP A i t) = none) : ml A (i :: t) = ml A t := by rw [ml, h]
theorem ml_length (A : Int → Int → Bool) (l : List Int) : (ml A l).length = mu A l := by
  refine len_ind (P := fun l => (ml A l).length = mu A l) (fun l ih => ?_) l
  cases l with
  | nil => rw [ml_nil, mu_nil]; rfl
  | cons i t =>
    cases h : t.find? (mlP A i t) with
    | some j =>
      rw [ml_some h, List.length_cons, ih _ (by simp; exact Nat.lt_succ_of_le (List.length_filter_le _ _))]
      have := List.find?_some h
      simp [mlP] at this
      exact this.2
    | none =>
      rw [ml_none h, ih t (by simp)]
      rcases mu_cases A i t with e | ⟨j, hj, ha, e⟩
      · exact e.symm
      · have := List.find?_eq_none.1 h j hj
        simp [mlP, ha] at this
        exact absurd e.symm this
theorem ml_len_le (A : Int → Int → Bool) (l : List Int) : (ml A l).length ≤ l.length := by rw [ml_length]; exact mu_le A l
end Go.Proofs.Ytghhnpdhehjlaaa
