/- Plain Lean for the laws: cliques of a graph on a list of points, in order. No program in sight. No conditions beyond those that each lemma states. -/
import Derived.Test.YtldgmcghdohmeaaPBits
set_option linter.unusedVariables false
set_option linter.unusedSimpArgs false
namespace Go.Proofs.Ytldgmcghdohmeaa
open Go Go.RowKit Ab

/-- The cliques of m points among some, in order. -/
def cl (adj : Int → Int → Bool) : Nat → List Int → List (List Int)
  | 0, _ => [[]]
  | _ + 1, [] => []
  | m + 1, v :: t => (cl adj m (t.filter (adj v))).map (v :: ·) ++ cl adj (m + 1) t
termination_by m l => (m, l.length)

/-- All cliques among some points but the empty one, in order. -/
def ac (adj : Int → Int → Bool) : List Int → List (List Int)
  | [] => []
  | v :: t => ([] :: ac adj (t.filter (adj v))).map (v :: ·) ++ ac adj t
termination_by l => l.length
decreasing_by
  · simp only [List.length_cons, List.length_unattach]; exact Nat.lt_succ_of_le (Nat.le_trans (List.length_filter_le _ _) (by simp))
  · simp

section
variable (adj : Int → Int → Bool)

theorem cl_zero (l : List Int) : cl adj 0 l = [[]] := by rw [cl]
theorem cl_nil (m : Nat) : cl adj (m + 1) [] = [] := by rw [cl]
theorem cl_cons (m : Nat) (v : Int) (t : List Int) : cl adj (m + 1) (v :: t) = (cl adj m (t.filter (adj v))).map (v :: ·) ++ cl adj (m + 1) t := by rw [cl]
theorem ac_nil : ac adj [] = [] := by rw [ac]
theorem ac_cons (v : Int) (t : List Int) : ac adj (v :: t) = ([] :: ac adj (t.filter (adj v))).map (v :: ·) ++ ac adj t := by rw [ac]

/-- Induction over lists by length. -/
theorem len_ind {P : List Int → Prop} (h : ∀ l, (∀ t, t.length < l.length → P t) → P l) (l : List Int) : P l := by
  have : ∀ n (l : List Int), l.length = n → P l := by
    intro n
    induction n using Nat.strongRecOn with
    | _ n ih => exact fun l e => h l fun t ht => ih t.length (by omega) t rfl
  exact this _ l rfl

theorem flt_lt (v : Int) (t : List Int) : (t.filter (adj v)).length < (v :: t).length := by
  simp only [List.length_cons]; exact Nat.lt_succ_of_le (List.length_filter_le _ _)

theorem ac_ne (l : List Int) : ∀ x ∈ ac adj l, x ≠ [] := by
  induction l using len_ind with
  | _ l ih =>
    cases l with
    | nil => intro x hx; rw [ac_nil] at hx; simp at hx
    | cons v t =>
      intro x hx
      rw [ac_cons, List.mem_append, List.mem_map] at hx
      rcases hx with ⟨y, _, rfl⟩ | hx
      · simp
      · exact ih t (by simp) x hx

theorem filter_map_cons (v : Int) (L : List (List Int)) (m : Nat) : (L.map (v :: ·)).filter (fun l => decide (l.length = m + 1)) = (L.filter (fun l => decide (l.length = m))).map (v :: ·) := by
  rw [List.filter_map]
  congr 1
  apply List.filter_congr
  intro x _
  simp

theorem ac_zero (l : List Int) : (ac adj l).filter (fun l => decide (l.length = 0)) = [] := by
  rw [List.filter_eq_nil_iff]
  intro x hx
  have := ac_ne adj l x hx
  cases x with
  | nil => exact absurd rfl this
  | cons a b => simp

theorem ac_succ (l : List Int) : ∀ m, (ac adj l).filter (fun l => decide (l.length = m + 1)) = cl adj (m + 1) l := by
  induction l using len_ind with
  | _ l ih =>
    intro m
    cases l with
    | nil => rw [ac_nil, cl_nil]; rfl
    | cons v t =>
      rw [ac_cons, cl_cons, List.filter_append, filter_map_cons, ih t (by simp) m]
      congr 2
      cases m with
      | zero => rw [cl_zero, List.filter_cons, if_pos (by simp), ac_zero]
      | succ m => rw [List.filter_cons, if_neg (by simp)]; exact ih _ (flt_lt adj v t) m

/-- The cliques of m points are those of all that have m. -/
theorem ac_filter (l : List Int) (m : Nat) : ([] :: ac adj l).filter (fun l => decide (l.length = m)) = cl adj m l := by
  cases m with
  | zero => rw [cl_zero, List.filter_cons, if_pos (by simp), ac_zero]
  | succ m => rw [List.filter_cons, if_neg (by simp)]; exact ac_succ adj l m

theorem cl_short (l : List Int) : ∀ m, l.length < m → cl adj m l = [] := by
  induction l using len_ind with
  | _ l ih =>
    intro m h
    cases m with
    | zero => omega
    | succ m =>
      cases l with
      | nil => exact cl_nil adj m
      | cons v t =>
        simp only [List.length_cons] at h
        rw [cl_cons, ih t (by simp) (m + 1) (by omega), ih _ (flt_lt adj v t) m (by have := List.length_filter_le (adj v) t; omega)]
        rfl

end

end Go.Proofs.Ytldgmcghdohmeaa
