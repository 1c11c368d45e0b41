/- Lists that go on by colours, in order: plain, no program. No conditions beyond those that each lemma states. -/
import Derived.Test.YtfnbhfobgimnjaaClqB
set_option linter.unusedVariables false
set_option linter.unusedSimpArgs false
namespace Go.Proofs.Ytfnbhfobgimnjaa
open Go Go.RowKit Ab

/-- All lists with n more colours (below K) behind l, each colour as ok allows it, in order. -/
def exts (K : Nat) (ok : List Int → Nat → Bool) : Nat → List Int → List (List Int)
  | 0, l => [l]
  | n + 1, l => (List.range K).flatMap fun c => if ok l c then exts K ok n (l ++ [(c : Int)]) else []

section
variable {K : Nat} {ok : List Int → Nat → Bool} {n : Nat} {l : List Int}
def esub (K : Nat) (ok : List Int → Nat → Bool) (n : Nat) (l : List Int) (c : Nat) : List (List Int) := if ok l c then exts K ok n (l ++ [(c : Int)]) else []
def epre (K : Nat) (ok : List Int → Nat → Bool) (n : Nat) (l : List Int) (c : Nat) : List (List Int) := (List.range c).flatMap (esub K ok n l)
theorem exts_zero : exts K ok 0 l = [l] := by rw [exts]
theorem exts_succ : exts K ok (n + 1) l = epre K ok n l K := by rw [exts]; rfl
theorem epre_zero : epre K ok n l 0 = [] := rfl
theorem epre_succ (c : Nat) : epre K ok n l (c + 1) = epre K ok n l c ++ esub K ok n l c := by
  unfold epre
  rw [List.range_succ, List.flatMap_append]
  simp
theorem epre_more (c d : Nat) : ∃ B, epre K ok n l (c + d) = epre K ok n l c ++ B := by
  induction d with
  | zero => exact ⟨[], by simp⟩
  | succ d ih =>
    obtain ⟨B, e⟩ := ih
    exact ⟨B ++ esub K ok n l (c + d), by rw [← Nat.add_assoc, epre_succ, e, List.append_assoc]⟩
theorem exts_len : ∀ (n : Nat) (l : List Int), ∀ e ∈ exts K ok n l, e.length = l.length + n := by
  intro n
  induction n with
  | zero => intro l e he; rw [exts_zero] at he; simp at he; subst he; simp
  | succ n ih =>
    intro l e he
    rw [exts] at he
    obtain ⟨c, _, hc⟩ := List.mem_flatMap.1 he
    split at hc
    · have := ih _ e hc
      simp at this
      omega
    · simp at hc
theorem exts_range : ∀ (n : Nat) (l : List Int), (∀ z ∈ l, 0 ≤ z ∧ z < K) → ∀ e ∈ exts K ok n l, ∀ z ∈ e, 0 ≤ z ∧ z < K := by
  intro n
  induction n with
  | zero => intro l hl e he; rw [exts_zero] at he; simp at he; subst he; exact hl
  | succ n ih =>
    intro l hl e he
    rw [exts] at he
    obtain ⟨c, hc0, hc⟩ := List.mem_flatMap.1 he
    have hcK := List.mem_range.1 hc0
    split at hc
    · refine ih _ (fun z hz => ?_) e hc
      rcases List.mem_append.1 hz with hz | hz
      · exact hl z hz
      · simp at hz; subst hz; omega
    · simp at hc
theorem flatMap_le {α β : Type} (f : α → List β) (m : Nat) : ∀ (L : List α), (∀ a ∈ L, (f a).length ≤ m) → (L.flatMap f).length ≤ L.length * m
  | [], _ => by simp
  | a :: t, h => by
    rw [List.flatMap_cons, List.length_append, List.length_cons, Nat.succ_mul]
    have h1 := h a (by simp)
    have h2 := flatMap_le f m t (fun b hb => h b (by simp [hb]))
    omega
theorem exts_count : ∀ (n : Nat) (l : List Int), (exts K ok n l).length ≤ K ^ n := by
  intro n
  induction n with
  | zero => intro l; rw [exts_zero]; simp
  | succ n ih =>
    intro l
    rw [exts]
    have := flatMap_le (fun c => if ok l c then exts K ok n (l ++ [(c : Int)]) else []) (K ^ n) (List.range K) (fun c _ => by
      split
      · exact ih _
      · simp)
    rw [List.length_range] at this
    rw [Nat.pow_succ, Nat.mul_comm]
    exact this
theorem flatMap_cong {α β : Type} (f g : α → List β) : ∀ (L : List α), (∀ a ∈ L, f a = g a) → L.flatMap f = L.flatMap g
  | [], _ => rfl
  | a :: t, h => by rw [List.flatMap_cons, List.flatMap_cons, h a (by simp), flatMap_cong f g t (fun b hb => h b (by simp [hb]))]
end
theorem take_app_le {α : Type} (A B : List α) (m : Nat) (h : A.length ≤ m) : (A ++ B).take m = A ++ B.take (m - A.length) := by
  rw [List.take_append, List.take_of_length_le h]

theorem flatMap_assoc2 {α β γ : Type} (f : α → List β) (g : β → List γ) : ∀ L : List α, (L.flatMap f).flatMap g = L.flatMap fun a => (f a).flatMap g
  | [] => rfl
  | a :: t => by rw [List.flatMap_cons, List.flatMap_cons, List.flatMap_append, flatMap_assoc2 f g t]
theorem exts_split {K : Nat} {ok : List Int → Nat → Bool} (b : Nat) : ∀ (a : Nat) (l : List Int), exts K ok (a + b) l = (exts K ok a l).flatMap (exts K ok b)
  | 0, l => by rw [Nat.zero_add, exts_zero]; simp
  | a + 1, l => by
    rw [show a + 1 + b = (a + b) + 1 by omega, exts, exts, flatMap_assoc2]
    refine flatMap_cong _ _ _ fun c _ => ?_
    split
    · exact exts_split b a _
    · rfl
theorem flatMap_len_le {α β : Type} (f g : α → List β) : ∀ L : List α, (∀ a ∈ L, (f a).length ≤ (g a).length) → (L.flatMap f).length ≤ (L.flatMap g).length
  | [], _ => by simp
  | a :: t, h => by
    rw [List.flatMap_cons, List.flatMap_cons, List.length_append, List.length_append]
    have h1 := h a (by simp)
    have h2 := flatMap_len_le f g t fun b hb => h b (by simp [hb])
    omega
theorem exts_more {K : Nat} {ok ok' : List Int → Nat → Bool} : ∀ (d : Nat) (l : List Int), (∀ e c, e.length < l.length + d → c < K → ok e c = true → ok' e c = true) → (exts K ok d l).length ≤ (exts K ok' d l).length
  | 0, l, _ => by rw [exts_zero, exts_zero]; simp
  | d + 1, l, h => by
    rw [exts, exts]
    refine flatMap_len_le _ _ _ fun c hc => ?_
    have hcK := List.mem_range.1 hc
    cases hok : ok l c with
    | false => simp
    | true =>
      rw [h l c (by omega) hcK hok, if_pos rfl, if_pos rfl]
      exact exts_more d _ fun e c' h1 h2 h3 => h e c' (by simp at h1; omega) h2 h3
end Go.Proofs.Ytfnbhfobgimnjaa
