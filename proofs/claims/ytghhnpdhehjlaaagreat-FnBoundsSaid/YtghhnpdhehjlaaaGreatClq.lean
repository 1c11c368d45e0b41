/- Plain Lean for the laws: cliques of a graph on a list of points, in order. No program in sight. No conditions beyond those that each lemma states. -/
import Derived.Test.YtghhnpdhehjlaaaGreatPBits
set_option linter.unusedVariables false
set_option linter.unusedSimpArgs false
namespace Go.Proofs.YtghhnpdhehjlaaaGreat
open Go Go.RowKit Ab

/-- The cliques of m points among some, in order. -/
def cl (adj : Int → Int → Bool) : Nat → List Int → List (List Int)
  | 0, _ => [[]]
  | _ + 1, [] => []
  | m + 1, v :: t => (cl adj m (t.filter (adj v))).map (v :: ·) ++ cl adj (m + 1) t
termination_by m l => (m, l.length)

/-- All cliques among some points but the empty one, in order. -/
def ac (adj : Int → Int → Bool) : List Int → List (List Int)
  | [] => []
  | v :: t => ([] :: ac adj (t.filter (adj v))).map (v :: ·) ++ ac adj t
termination_by l => l.length
decreasing_by
  · simp only [List.length_cons, List.length_unattach]; exact Nat.lt_succ_of_le (Nat.le_trans (List.length_filter_le _ _) (by simp))
  · simp

section
variable (adj : Int → Int → Bool)

theorem cl_zero (l : List Int) : cl adj 0 l = [[]] := by rw [cl]
theorem cl_nil (m : Nat) : cl adj (m + 1) [] = [] := by rw [cl]
theorem cl_cons (m : Nat) (v : Int) (t : List Int) : cl adj (m + 1) (v :: t) = (cl adj m (t.filter (adj v))).map (v :: ·) ++ cl adj (m + 1) t := by rw [cl]
theorem ac_nil : ac adj [] = [] := by rw [ac]
theorem ac_cons (v : Int) (t : List Int) : ac adj (v :: t) = ([] :: ac adj (t.filter (adj v))).map (v :: ·) ++ ac adj t := by rw [ac]

/-- Induction over lists by length. -/
theorem len_ind {P : List Int → Prop} (h : ∀ l, (∀ t, t.length < l.length → P t) → P l) (l : List Int) : P l := by
  have : ∀ n (l : List Int), l.length = n → P l := by
    intro n
    induction n using Nat.strongRecOn with
    | _ n ih => exact fun l e => h l fun t ht => ih t.length (by omega) t rfl
  exact this _ l rfl

theorem flt_lt (v : Int) (t : List Int) : (t.filter (adj v)).length < (v :: t).length := by
  simp only [List.length_cons]; exact Nat.lt_succ_of_le (List.length_filter_le _ _)

theorem ac_ne (l : List Int) : ∀ x ∈ ac adj l, x ≠ [] := by
  induction l using len_ind with
  | _ l ih =>
    cases l with
    | nil => intro x hx; rw [ac_nil] at hx; simp at hx
    | cons v t =>
      intro x hx
      rw [ac_cons, List.mem_append, List.mem_map] at hx
      rcases hx with ⟨y, _, rfl⟩ | hx
      · simp
      · exact ih t (by simp) x hx

theorem filter_map_cons (v : Int) (L : List (List Int)) (m : Nat) : (L.map (v :: ·)).filter (fun l => decide (l.length = m + 1)) = (L.filter (fun l => decide (l.length = m))).map (v :: ·) := by
  rw [List.filter_map]
  congr 1
  apply List.filter_congr
  intro x _
  simp

theorem ac_zero (l : List Int) : (ac adj l).filter (fun l => decide (l.length = 0)) = [] := by
  rw [List.filter_eq_nil_iff]
  intro x hx
  have := ac_ne adj l x hx
  cases x with
  | nil => exact absurd rfl this
  | cons a b => simp

theorem ac_succ (l : List Int) : ∀ m, (ac adj l).filter (fun l => decide (l.length = m + 1)) = cl adj (m + 1) l := by
  induction l using len_ind with
  | _ l ih =>
    intro m
    cases l with
    | nil => rw [ac_nil, cl_nil]; rfl
    | cons v t =>
      rw [ac_cons, cl_cons, List.filter_append, filter_map_cons, ih t (by simp) m]
      congr 2
      cases m with
      | zero => rw [cl_zero, List.filter_cons, if_pos (by simp), ac_zero]
      | succ m => rw [List.filter_cons, if_neg (by simp)]; exact ih _ (flt_lt adj v t) m

/-- The cliques of m points are those of all that have m. -/
theorem ac_filter (l : List Int) (m : Nat) : ([] :: ac adj l).filter (fun l => decide (l.length = m)) = cl adj m l := by
  cases m with
  | zero => rw [cl_zero, List.filter_cons, if_pos (by simp), ac_zero]
  | succ m => rw [List.filter_cons, if_neg (by simp)]; exact ac_succ adj l m

theorem cl_mono (l : List Int) : ∀ m, cl adj (m + 1) l ≠ [] → cl adj m l ≠ [] := by
  induction l using len_ind with
  | _ l ih =>
    intro m h
    cases m with
    | zero => rw [cl_zero]; simp
    | succ m =>
      cases l with
      | nil => exact absurd (cl_nil adj _) h
      | cons v t =>
        rw [cl_cons] at h ⊢
        intro e
        rw [List.append_eq_nil_iff, List.map_eq_nil_iff] at e
        have h1 : cl adj (m + 1) (t.filter (adj v)) = [] := by
          cases hq : cl adj (m + 1) (t.filter (adj v)) with
          | nil => rfl
          | cons a b => exact absurd e.1 (ih _ (flt_lt adj v t) m (by rw [hq]; simp))
        have h2 : cl adj (m + 1 + 1) t = [] := by
          cases hq : cl adj (m + 1 + 1) t with
          | nil => rfl
          | cons a b => exact absurd e.2 (ih t (by simp) (m + 1) (by rw [hq]; simp))
        rw [h1, h2] at h
        exact h rfl

theorem cl_down (l : List Int) (m d : Nat) (h : cl adj (m + d) l ≠ []) : cl adj m l ≠ [] := by
  induction d with
  | zero => exact h
  | succ d ih => exact ih (cl_mono adj l (m + d) h)

/-- What is a clique among some points. -/
theorem mem_cl (l : List Int) : ∀ m x, x ∈ cl adj m l ↔ x.Sublist l ∧ x.Pairwise (fun a b => adj a b = true) ∧ x.length = m := by
  induction l using len_ind with
  | _ l ih =>
    intro m x
    cases m with
    | zero =>
      rw [cl_zero]
      constructor
      · intro h; simp at h; subst h; simp
      · rintro ⟨_, _, h⟩; rw [List.length_eq_zero_iff] at h; subst h; simp
    | succ m =>
      cases l with
      | nil =>
        rw [cl_nil]
        constructor
        · intro h; simp at h
        · rintro ⟨h1, _, h3⟩; rw [List.sublist_nil] at h1; subst h1; simp at h3
      | cons v t =>
        rw [cl_cons, List.mem_append, List.mem_map, ih t (by simp)]
        constructor
        · rintro (⟨y, hy, rfl⟩ | ⟨h1, h2⟩)
          · obtain ⟨g1, g2, g3⟩ := (ih _ (flt_lt adj v t) m y).1 hy
            refine ⟨(g1.trans List.filter_sublist).cons_cons v, ?_, by simp [g3]⟩
            rw [List.pairwise_cons]
            refine ⟨fun b hb => ?_, g2⟩
            have := g1.subset hb
            rw [List.mem_filter] at this
            exact this.2
          · exact ⟨h1.cons v, h2⟩
        · rintro ⟨h1, h2, h3⟩
          cases h1 with
          | cons _ h1 => exact .inr ⟨h1, h2, h3⟩
          | cons_cons _ h1 =>
            rename_i y
            rw [List.pairwise_cons] at h2
            refine .inl ⟨y, (ih _ (flt_lt adj v t) m y).2 ⟨?_, h2.2, by simpa using h3⟩, rfl⟩
            rw [List.sublist_filter_iff]
            exact ⟨y, h1, (List.filter_eq_self.2 fun a ha => h2.1 a ha).symm⟩

theorem mem_ac (l x : List Int) : x ∈ ([] :: ac adj l) ↔ x.Sublist l ∧ x.Pairwise (fun a b => adj a b = true) := by
  have h := ac_filter adj l x.length
  constructor
  · intro hx
    have : x ∈ cl adj x.length l := by rw [← h, List.mem_filter]; exact ⟨hx, by simp⟩
    exact ⟨((mem_cl adj l _ x).1 this).1, ((mem_cl adj l _ x).1 this).2.1⟩
  · rintro ⟨h1, h2⟩
    have : x ∈ cl adj x.length l := (mem_cl adj l _ x).2 ⟨h1, h2, rfl⟩
    rw [← h, List.mem_filter] at this
    exact this.1

end

/-- The first one of the longest lists. -/
def grt (L : List (List Int)) (s : List Int) : List Int := L.foldl (fun s l => if s.length < l.length then l else s) s
end Go.Proofs.YtghhnpdhehjlaaaGreat
