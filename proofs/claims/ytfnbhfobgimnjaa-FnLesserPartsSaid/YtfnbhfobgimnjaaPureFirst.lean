/- Plain Lean for FnExactLesserPart: the first one of the longest lesser-coloured lists, with no program in sight. No conditions beyond those that each lemma states. -/
import Derived.Test.YtfnbhfobgimnjaaPKit
set_option linter.unusedVariables false
set_option linter.unusedSimpArgs false
namespace Go.Proofs.Ytfnbhfobgimnjaa
open Go Go.RowKit Ab

section
variable (f : Int → Int → Int)

def filt (last : Option Int) (p : Int) (l : List Int) : List Int :=
  match last with
  | none => l
  | some a => l.filter fun q => decide (f a q = f a p)

theorem filt_sub (last : Option Int) (p : Int) (l : List Int) : (filt f last p l).Sublist l := by
  cases last with
  | none => exact List.Sublist.refl _
  | some a => exact List.filter_sublist

theorem filt_len (last : Option Int) (p : Int) (l : List Int) : (filt f last p l).length ≤ l.length := (filt_sub f last p l).length_le

/-- How long a lesser-coloured list may grow. -/
def LL (last : Option Int) : List Int → Nat
  | [] => 0
  | p :: l => max (LL last l) (1 + LL (some p) (filt f last p l))
termination_by B => B.length
decreasing_by
  · simp
  · have := filt_len f last p l; simp; omega

/-- The first one of the longest. -/
def GG (last : Option Int) : List Int → List Int
  | [] => []
  | p :: l => if LL f last l ≤ 1 + LL f (some p) (filt f last p l) then p :: GG (some p) (filt f last p l) else GG last l
termination_by B => B.length
decreasing_by
  · have := filt_len f last p l; simp; omega
  · simp

def Les : List Int → Prop
  | [] => True
  | p :: s => (∀ q ∈ s, ∀ r ∈ s, f p q = f p r) ∧ Les s

theorem Les_sub {s t : List Int} (h : s.Sublist t) (ht : Les f t) : Les f s := by
  induction h with
  | slnil => exact ht
  | cons a h ih => exact ih ht.2
  | cons_cons a h ih => exact ⟨fun q hq r hr => ht.1 q (h.subset hq) r (h.subset hr), ih ht.2⟩

def CC (last : Option Int) (B s : List Int) : Prop := s.Sublist B ∧ Les f s ∧ ∀ a, last = some a → ∀ q ∈ s, ∀ r ∈ s, f a q = f a r

def LexLe : List Int → List Int → Prop
  | [], _ => True
  | _ :: _, [] => False
  | a :: s, b :: t => a < b ∨ (a = b ∧ LexLe s t)

theorem CC_put {last : Option Int} {p : Int} {l t : List Int} (h : CC f (some p) (filt f last p l) t) : CC f last (p :: l) (p :: t) := by
  refine ⟨List.Sublist.cons_cons _ (h.1.trans (filt_sub f last p l)), ⟨h.2.2 p rfl, h.2.1⟩, ?_⟩
  rintro a rfl
  have key : ∀ q ∈ p :: t, f a q = f a p := by
    intro q hq
    rcases List.mem_cons.1 hq with rfl | hq
    · rfl
    · have := h.1.subset hq
      simp only [filt, List.mem_filter, decide_eq_true_eq] at this
      exact this.2
  intro q hq r hr
  rw [key q hq, key r hr]

theorem CC_get {last : Option Int} {p : Int} {l t : List Int} (hs : t.Sublist l) (h : CC f last (p :: l) (p :: t)) : CC f (some p) (filt f last p l) t := by
  refine ⟨?_, h.2.1.2, fun a ha => by cases ha; exact h.2.1.1⟩
  cases last with
  | none => exact hs
  | some a =>
    have := hs.filter (fun q => decide (f a q = f a p))
    rwa [List.filter_eq_self.2] at this
    intro q hq
    exact decide_eq_true (h.2.2 a rfl q (List.mem_cons_of_mem _ hq) p (List.mem_cons_self ..))

theorem first_main : ∀ (n : Nat) (last : Option Int) (B : List Int), B.length ≤ n → B.Pairwise (· < ·) →
    (GG f last B).length = LL f last B ∧ CC f last B (GG f last B) ∧ ∀ s, CC f last B s → s.length ≤ LL f last B ∧ (s.length = LL f last B → LexLe (GG f last B) s) := by
  intro n
  induction n with
  | zero =>
    intro last B hB hp
    obtain rfl : B = [] := List.eq_nil_of_length_eq_zero (by omega)
    rw [GG, LL]
    refine ⟨rfl, ⟨List.Sublist.refl _, trivial, fun a _ q hq => by cases hq⟩, fun s hs => ?_⟩
    have : s = [] := List.sublist_nil.1 hs.1
    subst this
    exact ⟨Nat.le_refl _, fun _ => trivial⟩
  | succ n ih =>
    intro last B hB hp
    cases B with
    | nil =>
      rw [GG, LL]
      refine ⟨rfl, ⟨List.Sublist.refl _, trivial, fun a _ q hq => by cases hq⟩, fun s hs => ?_⟩
      have : s = [] := List.sublist_nil.1 hs.1
      subst this
      exact ⟨Nat.le_refl _, fun _ => trivial⟩
    | cons p l =>
      have hl : l.length ≤ n := by simp at hB; exact hB
      have hfl : (filt f last p l).length ≤ n := Nat.le_trans (filt_len f last p l) hl
      have hpl := (List.pairwise_cons.1 hp).2
      have hpp := (List.pairwise_cons.1 hp).1
      obtain ⟨a1, a2, a3⟩ := ih last l hl hpl
      obtain ⟨b1, b2, b3⟩ := ih (some p) (filt f last p l) hfl (hpl.sublist (filt_sub f last p l))
      rw [GG, LL]
      by_cases h : LL f last l ≤ 1 + LL f (some p) (filt f last p l)
      · rw [if_pos h]
        refine ⟨by rw [List.length_cons, b1]; omega, CC_put f b2, fun s hs => ?_⟩
        rcases List.sublist_cons_iff.1 hs.1 with h1 | ⟨t, rfl, h1⟩
        · have hc : CC f last l s := ⟨h1, hs.2⟩
          have := (a3 s hc).1
          refine ⟨by omega, fun e => ?_⟩
          cases s with
          | nil => simp at e; omega
          | cons q t => exact .inl (hpp q (h1.subset (List.mem_cons_self ..)))
        · obtain ⟨c1, c2⟩ := b3 t (CC_get f h1 hs)
          refine ⟨by rw [List.length_cons]; omega, fun e => .inr ⟨rfl, c2 (by rw [List.length_cons] at e; omega)⟩⟩
      · rw [if_neg h]
        refine ⟨by omega, ⟨a2.1.cons p, a2.2⟩, fun s hs => ?_⟩
        rcases List.sublist_cons_iff.1 hs.1 with h1 | ⟨t, rfl, h1⟩
        · obtain ⟨c1, c2⟩ := a3 s ⟨h1, hs.2⟩
          exact ⟨by omega, fun e => c2 (by omega)⟩
        · obtain ⟨c1, c2⟩ := b3 t (CC_get f h1 hs)
          refine ⟨by rw [List.length_cons]; omega, fun e => ?_⟩
          rw [List.length_cons] at e; omega

theorem LL_le_len (last : Option Int) (B : List Int) (hp : B.Pairwise (· < ·)) : LL f last B ≤ B.length := by
  obtain ⟨h1, h2, _⟩ := first_main f B.length last B (Nat.le_refl _) hp
  rw [← h1]; exact h2.1.length_le

theorem LL_sub (B : List Int) (hp : B.Pairwise (· < ·)) (s : List Int) (hs : s.Sublist B) (hl : Les f s) : s.length ≤ LL f none B :=
  ((first_main f B.length none B (Nat.le_refl _) hp).2.2 s ⟨hs, hl, fun a h => by cases h⟩).1

theorem LL_take (B : List Int) (hp : B.Pairwise (· < ·)) (n : Nat) (h : n ≤ LL f none B) : ∃ s : List Int, s.Sublist B ∧ Les f s ∧ s.length = n := by
  obtain ⟨h1, h2, _⟩ := first_main f B.length none B (Nat.le_refl _) hp
  refine ⟨(GG f none B).take n, (List.take_sublist _ _).trans h2.1, Les_sub f (List.take_sublist _ _) h2.2.1, ?_⟩
  rw [List.length_take, h1]; omega

/-- The points of a list that a point joins with a colour. -/
def own (p c : Int) (B : List Int) : List Int := B.filter fun q => decide (f p q = c)

theorem LL_own_le (p c : Int) (B : List Int) (hp : B.Pairwise (· < ·)) : LL f none (own f p c B) ≤ LL f (some p) B := by
  obtain ⟨h1, h2, _⟩ := first_main f _ none (own f p c B) (Nat.le_refl _) (hp.sublist List.filter_sublist)
  rw [← h1]
  refine ((first_main f _ (some p) B (Nat.le_refl _) hp).2.2 _ ⟨h2.1.trans List.filter_sublist, h2.2.1, fun a ha q hq r hr => ?_⟩).1
  cases ha
  have m1 := h2.1.subset hq
  have m2 := h2.1.subset hr
  simp only [own, List.mem_filter, decide_eq_true_eq] at m1 m2
  rw [m1.2, m2.2]

theorem LL_own_ex (K : Int) (hK : 1 ≤ K) (p : Int) (B : List Int) (hp : B.Pairwise (· < ·)) (hc : ∀ q ∈ B, 0 ≤ f p q ∧ f p q < K) : ∃ c, 0 ≤ c ∧ c < K ∧ LL f (some p) B ≤ LL f none (own f p c B) := by
  obtain ⟨h1, h2, _⟩ := first_main f _ (some p) B (Nat.le_refl _) hp
  rw [← h1]
  cases hg : GG f (some p) B with
  | nil => exact ⟨0, by omega, by omega, by simp⟩
  | cons q t =>
    rw [hg] at h2
    have hq := hc q (h2.1.subset (List.mem_cons_self ..))
    refine ⟨f p q, hq.1, hq.2, ?_⟩
    refine LL_sub f _ (hp.sublist List.filter_sublist) _ ?_ h2.2.1
    have := h2.1.filter (fun r => decide (f p r = f p q))
    rwa [List.filter_eq_self.2] at this
    intro r hr
    exact decide_eq_true (h2.2.2 p rfl r hr q (List.mem_cons_self ..))

/-! ### Point by point -/
def Cand (sets : List (List Int)) (left : Nat) (t : List Int) : Prop := t.length = left ∧ Les f t ∧ ∃ S ∈ sets, t.Sublist S
def Best (sets : List (List Int)) (left : Nat) (g : List Int) : Prop := Cand f sets left g ∧ ∀ t, Cand f sets left t → LexLe g t

/-- What of a list stands behind a point and is joined with it in a colour. -/
def behind (p c : Int) (S : List Int) : List Int := S.filter fun q => decide (p < q ∧ f p q = c)

theorem pw_behind {p : Int} {S t : List Int} (hS : S.Pairwise (· < ·)) (h : t.Sublist S) (hp : p ∈ S) (ht : ∀ q ∈ t, p < q) : (p :: t).Sublist S := by
  induction S generalizing t with
  | nil => cases hp
  | cons a S ih =>
    have hS1 := (List.pairwise_cons.1 hS).1
    have hS2 := (List.pairwise_cons.1 hS).2
    rcases List.mem_cons.1 hp with rfl | hp'
    · refine List.Sublist.cons_cons _ ?_
      rcases List.sublist_cons_iff.1 h with h1 | ⟨t', rfl, h1⟩
      · exact h1
      · exact absurd (ht p (List.mem_cons_self ..)) (by omega)
    · refine List.Sublist.cons _ (ih hS2 ?_ hp' ht)
      rcases List.sublist_cons_iff.1 h with h1 | ⟨t', rfl, h1⟩
      · exact h1
      · have := ht a (List.mem_cons_self ..)
        have := hS1 p hp'
        omega

theorem behind_put {p c : Int} {S t : List Int} (hS : S.Pairwise (· < ·)) (hp : p ∈ S) (h : t.Sublist (behind f p c S)) (ht : Les f t) : (p :: t).Sublist S ∧ Les f (p :: t) := by
  have hm : ∀ q ∈ t, p < q ∧ f p q = c := fun q hq => by
    have := h.subset hq
    simp only [behind, List.mem_filter, decide_eq_true_eq] at this
    exact this.2
  exact ⟨pw_behind hS (h.trans List.filter_sublist) hp fun q hq => (hm q hq).1, ⟨fun q hq r hr => by rw [(hm q hq).2, (hm r hr).2], ht⟩⟩

theorem behind_get {K p : Int} {S t : List Int} (hK : 1 ≤ K) (hS : S.Pairwise (· < ·)) (hc : ∀ q ∈ S, p < q → 0 ≤ f p q ∧ f p q < K) (h : (p :: t).Sublist S) (ht : Les f (p :: t)) : p ∈ S ∧ ∃ c, 0 ≤ c ∧ c < K ∧ t.Sublist (behind f p c S) := by
  have hpS : p ∈ S := h.subset (List.mem_cons_self ..)
  have hpw := hS.sublist h
  have hlt := (List.pairwise_cons.1 hpw).1
  have hts : t.Sublist S := (List.sublist_cons_self p t).trans h
  refine ⟨hpS, ?_⟩
  cases t with
  | nil => exact ⟨0, by omega, by omega, List.nil_sublist _⟩
  | cons q t =>
    have hq := hc q (hts.subset (List.mem_cons_self ..)) (hlt q (List.mem_cons_self ..))
    refine ⟨f p q, hq.1, hq.2, ?_⟩
    have := hts.filter (fun r => decide (p < r ∧ f p r = f p q))
    rwa [List.filter_eq_self.2] at this
    intro r hr
    exact decide_eq_true ⟨hlt r hr, ht.1 r hr q (List.mem_cons_self ..)⟩

section
variable {sets next : List (List Int)} {K p : Int} {l : Nat} {g : List Int} (hK : 1 ≤ K) (hS : ∀ S ∈ sets, S.Pairwise (· < ·)) (hb : Best f sets (l + 1) (p :: g))
include hK hS hb

omit hK in
/-- Before the first point nothing goes on. -/
theorem best_before {p0 c : Int} {S : List Int} (h0 : p0 < p) (h : S ∈ sets) (hp : p0 ∈ S) : ¬ l ≤ LL f none (behind f p0 c S) := fun hle => by
  obtain ⟨t, h1, h2, h3⟩ := LL_take f _ ((hS S h).sublist List.filter_sublist) l hle
  obtain ⟨h4, h5⟩ := behind_put f (hS S h) hp h1 h2
  have := hb.2 (p0 :: t) ⟨by rw [List.length_cons, h3], h5, S, h, h4⟩
  rcases this with h | ⟨h, _⟩ <;> omega

theorem best_at (hc : ∀ S ∈ sets, ∀ q ∈ S, p < q → 0 ≤ f p q ∧ f p q < K) : ∃ S ∈ sets, p ∈ S ∧ ∃ c, 0 ≤ c ∧ c < K ∧ l ≤ LL f none (behind f p c S) := by
  obtain ⟨h1, h2, S, h3, h4⟩ := hb.1
  obtain ⟨h5, c, h6, h7, h8⟩ := behind_get f hK (hS S h3) (hc S h3) h4 h2
  refine ⟨S, h3, h5, c, h6, h7, ?_⟩
  have := LL_sub f (behind f p c S) ((hS S h3).sublist List.filter_sublist) _ h8 h2.2
  rw [List.length_cons] at h1
  omega

theorem best_next (hc : ∀ S ∈ sets, ∀ q ∈ S, p < q → 0 ≤ f p q ∧ f p q < K) (hn : ∀ T, T ∈ next ↔ ∃ S ∈ sets, p ∈ S ∧ ∃ c, 0 ≤ c ∧ c < K ∧ T = behind f p c S ∧ l ≤ LL f none T) : Best f next l g := by
  have key : ∀ t, Cand f next l t ↔ Cand f sets (l + 1) (p :: t) := by
    intro t
    constructor
    · rintro ⟨h1, h2, T, h3, h4⟩
      obtain ⟨S, h5, h6, c, h7, h8, rfl, h9⟩ := (hn T).1 h3
      obtain ⟨h10, h11⟩ := behind_put f (hS S h5) h6 h4 h2
      exact ⟨by rw [List.length_cons, h1], h11, S, h5, h10⟩
    · rintro ⟨h1, h2, S, h3, h4⟩
      rw [List.length_cons] at h1
      obtain ⟨h5, c, h6, h7, h8⟩ := behind_get f hK (hS S h3) (hc S h3) h4 h2
      refine ⟨by omega, h2.2, _, (hn _).2 ⟨S, h3, h5, c, h6, h7, rfl, ?_⟩, h8⟩
      have := LL_sub f (behind f p c S) ((hS S h3).sublist List.filter_sublist) _ h8 h2.2
      omega
  refine ⟨(key g).2 hb.1, fun t ht => ?_⟩
  rcases hb.2 _ ((key t).1 ht) with h | ⟨_, h⟩
  · omega
  · exact h
end

/-- The first longest list is the best of all. -/
theorem GG_best (B : List Int) (hp : B.Pairwise (· < ·)) : Best f [B] (LL f none B) (GG f none B) := by
  obtain ⟨h1, h2, h3⟩ := first_main f _ none B (Nat.le_refl _) hp
  refine ⟨⟨h1, h2.2.1, B, List.mem_singleton.2 rfl, h2.1⟩, ?_⟩
  rintro t ⟨t1, t2, S, t3, t4⟩
  obtain rfl := List.mem_singleton.1 t3
  exact (h3 t ⟨t4, t2, fun a h => by cases h⟩).2 t1
end
end Go.Proofs.Ytfnbhfobgimnjaa
